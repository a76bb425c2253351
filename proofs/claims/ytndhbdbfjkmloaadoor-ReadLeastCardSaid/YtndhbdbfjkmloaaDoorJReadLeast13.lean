/- The reader's prefixes and what stands behind. -/
import Derived.Test.YtndhbdbfjkmloaaDoorJReadLeast12
namespace Go.Proofs.YtndhbdbfjkmloaaDoor
open Go.RowKit

theorem pre_op {h : Bool} {f c n : Nat} {l : List UInt8} (ht : tokL l = .sg c n) (hc : c = 38 ∨ c = 33) : rdJ h (f + 1) .pre l = thenGo l n fun l1 => bindR (rdJ h f .pre l1) fun e l2 => some (.ok (.mk (if c = 38 then 10 else 11) 0 0 0 0 ⟨#[]⟩ [e]) l2) := by
  rw [rdJ, ht]
  simp only [if_pos hc]
theorem pre_pri {h : Bool} {f : Nat} {l : List UInt8} (ht : ∀ c n, tokL l = .sg c n → ¬ (c = 38 ∨ c = 33)) : rdJ h (f + 1) .pre l = bindR (rdJ h f .pri l) fun e l1 => rdJ h f (.post e) l1 := by
  rw [rdJ]
  cases hx : tokL l with
  | sg c n => simp only [if_neg (ht c n hx)]
  | _ => rfl
theorem post_op {h : Bool} {f c n : Nat} {l : List UInt8} {e : Ex} (ht : tokL l = .sg c n) (hc : c = 63 ∨ c = 42 ∨ c = 43) : rdJ h (f + 1) (.post e) l = thenGo l n fun l1 => rdJ h f (.post (.mk (postK c) 0 0 0 0 ⟨#[]⟩ [e])) l1 := by
  rw [rdJ, ht]
  simp only [if_pos hc]
theorem post_end {h : Bool} {f : Nat} {l : List UInt8} {e : Ex} (ht : ∀ c n, tokL l = .sg c n → ¬ (c = 63 ∨ c = 42 ∨ c = 43)) : rdJ h (f + 1) (.post e) l = some (.ok e l) := by
  rw [rdJ]
  cases hx : tokL l with
  | sg c n => simp only [if_neg (ht c n hx)]
  | _ => rfl
section
variable {s : ByteArray} {h : Bool} {rb lo : Nat} {w W W' : World} {x : Ex} {l l' : List UInt8}
theorem size7 (k : Nat) (u0 u1 u2 u3 u4 u5 u6 : Value) : (((((((W.setCell ⟨k, 0, none⟩ u0).setCell ⟨k, 1, none⟩ u1).setCell ⟨k, 2, none⟩ u2).setCell ⟨k, 3, none⟩ u3).setCell ⟨k, 4, none⟩ u4).setCell ⟨k, 5, none⟩ u5).setCell ⟨k, 6, none⟩ u6).heap.size = W.heap.size := size_set7 _ _ _ _ _ _ _
theorem kid_res {k : Int} {v0 v1 v2 v3 v4 v5 v6 : Value} (hE : ExF (fun b => lo ≤ b ∧ b < W.heap.size) W.heap.size W x [v0, v1, v2, v3, v4, v5, v6]) (hr : RdAt s h rb l W) (hg : w.grownBy W (some rb)) (hlo : w.heap.size + 1 ≤ lo) (hrb : rb < w.heap.size) (hsz : lo ≤ W.heap.size) (hbx : Blk W w.heap.size 27 #[.int .i64 0, .int .u64 0, .int .u64 0, .int .u64 0, .int .u64 0, .string ⟨#[]⟩, .slice none 0 0]) :
    w.grownBy ((((((((W.setCell ⟨w.heap.size, 0, none⟩ (.int .i64 k)).setCell ⟨w.heap.size, 1, none⟩ (.int .u64 0)).setCell ⟨w.heap.size, 2, none⟩ (.int .u64 0)).setCell ⟨w.heap.size, 3, none⟩ (.int .u64 0)).setCell ⟨w.heap.size, 4, none⟩ (.int .u64 0)).setCell ⟨w.heap.size, 5, none⟩ (.string ⟨#[]⟩)).setCell ⟨w.heap.size, 6, none⟩ (.slice (some ⟨W.heap.size, 0, none⟩) 1 1)).alloc (.cells #[v0, v1, v2, v3, v4, v5, v6] 27)) (some rb) ∧
    ExF (fun b => w.heap.size ≤ b ∧ b < ((((((((W.setCell ⟨w.heap.size, 0, none⟩ (.int .i64 k)).setCell ⟨w.heap.size, 1, none⟩ (.int .u64 0)).setCell ⟨w.heap.size, 2, none⟩ (.int .u64 0)).setCell ⟨w.heap.size, 3, none⟩ (.int .u64 0)).setCell ⟨w.heap.size, 4, none⟩ (.int .u64 0)).setCell ⟨w.heap.size, 5, none⟩ (.string ⟨#[]⟩)).setCell ⟨w.heap.size, 6, none⟩ (.slice (some ⟨W.heap.size, 0, none⟩) 1 1)).alloc (.cells #[v0, v1, v2, v3, v4, v5, v6] 27)).heap.size)
      ((((((((W.setCell ⟨w.heap.size, 0, none⟩ (.int .i64 k)).setCell ⟨w.heap.size, 1, none⟩ (.int .u64 0)).setCell ⟨w.heap.size, 2, none⟩ (.int .u64 0)).setCell ⟨w.heap.size, 3, none⟩ (.int .u64 0)).setCell ⟨w.heap.size, 4, none⟩ (.int .u64 0)).setCell ⟨w.heap.size, 5, none⟩ (.string ⟨#[]⟩)).setCell ⟨w.heap.size, 6, none⟩ (.slice (some ⟨W.heap.size, 0, none⟩) 1 1)).alloc (.cells #[v0, v1, v2, v3, v4, v5, v6] 27)).heap.size
      ((((((((W.setCell ⟨w.heap.size, 0, none⟩ (.int .i64 k)).setCell ⟨w.heap.size, 1, none⟩ (.int .u64 0)).setCell ⟨w.heap.size, 2, none⟩ (.int .u64 0)).setCell ⟨w.heap.size, 3, none⟩ (.int .u64 0)).setCell ⟨w.heap.size, 4, none⟩ (.int .u64 0)).setCell ⟨w.heap.size, 5, none⟩ (.string ⟨#[]⟩)).setCell ⟨w.heap.size, 6, none⟩ (.slice (some ⟨W.heap.size, 0, none⟩) 1 1)).alloc (.cells #[v0, v1, v2, v3, v4, v5, v6] 27)) (.mk k 0 0 0 0 ⟨#[]⟩ [x]) (exCells k 0 0 0 0 ⟨#[]⟩ (some ⟨W.heap.size, 0, none⟩) 1 1) ∧
    RdAt s h rb l ((((((((W.setCell ⟨w.heap.size, 0, none⟩ (.int .i64 k)).setCell ⟨w.heap.size, 1, none⟩ (.int .u64 0)).setCell ⟨w.heap.size, 2, none⟩ (.int .u64 0)).setCell ⟨w.heap.size, 3, none⟩ (.int .u64 0)).setCell ⟨w.heap.size, 4, none⟩ (.int .u64 0)).setCell ⟨w.heap.size, 5, none⟩ (.string ⟨#[]⟩)).setCell ⟨w.heap.size, 6, none⟩ (.slice (some ⟨W.heap.size, 0, none⟩) 1 1)).alloc (.cells #[v0, v1, v2, v3, v4, v5, v6] 27)) ∧
    Blk ((((((((W.setCell ⟨w.heap.size, 0, none⟩ (.int .i64 k)).setCell ⟨w.heap.size, 1, none⟩ (.int .u64 0)).setCell ⟨w.heap.size, 2, none⟩ (.int .u64 0)).setCell ⟨w.heap.size, 3, none⟩ (.int .u64 0)).setCell ⟨w.heap.size, 4, none⟩ (.int .u64 0)).setCell ⟨w.heap.size, 5, none⟩ (.string ⟨#[]⟩)).setCell ⟨w.heap.size, 6, none⟩ (.slice (some ⟨W.heap.size, 0, none⟩) 1 1)).alloc (.cells #[v0, v1, v2, v3, v4, v5, v6] 27)) w.heap.size 27 #[.int .i64 k, .int .u64 0, .int .u64 0, .int .u64 0, .int .u64 0, .string ⟨#[]⟩, .slice (some ⟨W.heap.size, 0, none⟩) 1 1] := by
  have hz := size7 (W := W) w.heap.size (.int .i64 k) (.int .u64 0) (.int .u64 0) (.int .u64 0) (.int .u64 0) (.string ⟨#[]⟩) (.slice (some ⟨W.heap.size, 0, none⟩) 1 1)
  have h1 := grown_set7 hg (Nat.le_refl w.heap.size) (.int .i64 k) (.int .u64 0) (.int .u64 0) (.int .u64 0) (.int .u64 0) (.string ⟨#[]⟩) (.slice (some ⟨W.heap.size, 0, none⟩) 1 1)
  have h2 := hE.set7 (k := w.heap.size) (fun hb => by omega) (.int .i64 k) (.int .u64 0) (.int .u64 0) (.int .u64 0) (.int .u64 0) (.string ⟨#[]⟩) (.slice (some ⟨W.heap.size, 0, none⟩) 1 1)
  have h3 := hr.set7 (k := w.heap.size) (by omega) (.int .i64 k) (.int .u64 0) (.int .u64 0) (.int .u64 0) (.int .u64 0) (.string ⟨#[]⟩) (.slice (some ⟨W.heap.size, 0, none⟩) 1 1)
  have b0 : Blk (W.setCell ⟨w.heap.size, 0, none⟩ (.int .i64 k)) w.heap.size 27 #[.int .i64 k, .int .u64 0, .int .u64 0, .int .u64 0, .int .u64 0, .string ⟨#[]⟩, .slice none 0 0] := hbx.set_ 0 _
  have b1 : Blk ((W.setCell ⟨w.heap.size, 0, none⟩ (.int .i64 k)).setCell ⟨w.heap.size, 1, none⟩ (.int .u64 0)) w.heap.size 27 #[.int .i64 k, .int .u64 0, .int .u64 0, .int .u64 0, .int .u64 0, .string ⟨#[]⟩, .slice none 0 0] := b0.set_ 1 _
  have b2 : Blk (((W.setCell ⟨w.heap.size, 0, none⟩ (.int .i64 k)).setCell ⟨w.heap.size, 1, none⟩ (.int .u64 0)).setCell ⟨w.heap.size, 2, none⟩ (.int .u64 0)) w.heap.size 27 #[.int .i64 k, .int .u64 0, .int .u64 0, .int .u64 0, .int .u64 0, .string ⟨#[]⟩, .slice none 0 0] := b1.set_ 2 _
  have b3 : Blk ((((W.setCell ⟨w.heap.size, 0, none⟩ (.int .i64 k)).setCell ⟨w.heap.size, 1, none⟩ (.int .u64 0)).setCell ⟨w.heap.size, 2, none⟩ (.int .u64 0)).setCell ⟨w.heap.size, 3, none⟩ (.int .u64 0)) w.heap.size 27 #[.int .i64 k, .int .u64 0, .int .u64 0, .int .u64 0, .int .u64 0, .string ⟨#[]⟩, .slice none 0 0] := b2.set_ 3 _
  have b4 : Blk (((((W.setCell ⟨w.heap.size, 0, none⟩ (.int .i64 k)).setCell ⟨w.heap.size, 1, none⟩ (.int .u64 0)).setCell ⟨w.heap.size, 2, none⟩ (.int .u64 0)).setCell ⟨w.heap.size, 3, none⟩ (.int .u64 0)).setCell ⟨w.heap.size, 4, none⟩ (.int .u64 0)) w.heap.size 27 #[.int .i64 k, .int .u64 0, .int .u64 0, .int .u64 0, .int .u64 0, .string ⟨#[]⟩, .slice none 0 0] := b3.set_ 4 _
  have b5 : Blk ((((((W.setCell ⟨w.heap.size, 0, none⟩ (.int .i64 k)).setCell ⟨w.heap.size, 1, none⟩ (.int .u64 0)).setCell ⟨w.heap.size, 2, none⟩ (.int .u64 0)).setCell ⟨w.heap.size, 3, none⟩ (.int .u64 0)).setCell ⟨w.heap.size, 4, none⟩ (.int .u64 0)).setCell ⟨w.heap.size, 5, none⟩ (.string ⟨#[]⟩)) w.heap.size 27 #[.int .i64 k, .int .u64 0, .int .u64 0, .int .u64 0, .int .u64 0, .string ⟨#[]⟩, .slice none 0 0] := b4.set_ 5 _
  have b6 : Blk (((((((W.setCell ⟨w.heap.size, 0, none⟩ (.int .i64 k)).setCell ⟨w.heap.size, 1, none⟩ (.int .u64 0)).setCell ⟨w.heap.size, 2, none⟩ (.int .u64 0)).setCell ⟨w.heap.size, 3, none⟩ (.int .u64 0)).setCell ⟨w.heap.size, 4, none⟩ (.int .u64 0)).setCell ⟨w.heap.size, 5, none⟩ (.string ⟨#[]⟩)).setCell ⟨w.heap.size, 6, none⟩ (.slice (some ⟨W.heap.size, 0, none⟩) 1 1)) w.heap.size 27 #[.int .i64 k, .int .u64 0, .int .u64 0, .int .u64 0, .int .u64 0, .string ⟨#[]⟩, .slice (some ⟨W.heap.size, 0, none⟩) 1 1] := b5.set_ 6 _
  clear b0 b1 b2 b3 b4 b5
  generalize (((((((W.setCell ⟨w.heap.size, 0, none⟩ (.int .i64 k)).setCell ⟨w.heap.size, 1, none⟩ (.int .u64 0)).setCell ⟨w.heap.size, 2, none⟩ (.int .u64 0)).setCell ⟨w.heap.size, 3, none⟩ (.int .u64 0)).setCell ⟨w.heap.size, 4, none⟩ (.int .u64 0)).setCell ⟨w.heap.size, 5, none⟩ (.string ⟨#[]⟩)).setCell ⟨w.heap.size, 6, none⟩ (.slice (some ⟨W.heap.size, 0, none⟩) 1 1)) = X at hz h1 h2 h3 b6 ⊢
  rw [← hz] at h2 hsz b6 ⊢
  have h4 := h2.allocR (.cells #[v0, v1, v2, v3, v4, v5, v6] 27)
  have hb := Blk.new X 27 #[v0, v1, v2, v3, v4, v5, v6]
  have hsz2 : (X.alloc (.cells #[v0, v1, v2, v3, v4, v5, v6] 27)).heap.size = X.heap.size + 1 := by simp
  refine ⟨h1.trans (World.grownBy_alloc _ _ _), ?_, h3.below ((Below.refl _ _).alloc (Nat.le_refl _) _), b6.alloc _⟩
  exact ExF.one (h4.mono (fun b hb => ⟨by omega, hb.2⟩) (Nat.le_refl _)) hb rfl (by rw [hsz2]; omega) (by rw [hsz2]; omega) k
/-- while what stands behind is read -/
structure PoI (s : ByteArray) (h : Bool) (rb : Nat) (w : World) (eb : Nat) (x : Ex) (v0 v1 v2 v3 v4 v5 v6 : Value) (l : List UInt8) (wr : World) : Prop where
  grown : w.grownBy wr (some rb)
  box : Blk wr w.heap.size 27 #[.int .i64 0, .int .u64 0, .int .u64 0, .int .u64 0, .int .u64 0, .string ⟨#[]⟩, .slice none 0 0]
  ebx : Blk wr eb 27 #[v0, v1, v2, v3, v4, v5, v6]
  ex : ExF (fun b => w.heap.size + 1 ≤ b ∧ b < wr.heap.size ∧ b ≠ eb) wr.heap.size wr x [v0, v1, v2, v3, v4, v5, v6]
  rd : RdAt s h rb l wr
  ebl : w.heap.size + 1 ≤ eb
  old : rb < w.heap.size
variable {eb : Nat} {v0 v1 v2 v3 v4 v5 v6 : Value}
theorem PoI.went (H : PoI s h rb w eb x v0 v1 v2 v3 v4 v5 v6 l W) (hg : W.grownBy W' (some rb)) (hr : RdAt s h rb l' W') : PoI s h rb w eb x v0 v1 v2 v3 v4 v5 v6 l' W' :=
  have ho := H.old
  have he := H.ebl
  ⟨H.grown.trans hg, H.box.grown hg (fun e => by injection e with e; omega), H.ebx.grown hg (fun e => by injection e with e; omega),
    (H.ex.keep (W' := W') fun p hp => World.cell?_of_block (hg.block p.block hp.2.1 (by intro e; injection e with e; have := hp.1; omega))).mono (fun b hb => ⟨hb.1, Nat.lt_of_lt_of_le hb.2.1 hg.size, hb.2.2⟩) hg.size, hr, he, ho⟩
theorem PoI.post (H : PoI s h rb w eb x v0 v1 v2 v3 v4 v5 v6 l W) (k : Int) :
    PoI s h rb w eb (.mk k 0 0 0 0 ⟨#[]⟩ [x]) (.int .i64 k) (.int .u64 0) (.int .u64 0) (.int .u64 0) (.int .u64 0) (.string ⟨#[]⟩) (.slice (some ⟨W.heap.size, 0, none⟩) 1 1) l
      ((((((((W.setCell ⟨eb, 0, none⟩ (.int .i64 k)).setCell ⟨eb, 1, none⟩ (.int .u64 0)).setCell ⟨eb, 2, none⟩ (.int .u64 0)).setCell ⟨eb, 3, none⟩ (.int .u64 0)).setCell ⟨eb, 4, none⟩ (.int .u64 0)).setCell ⟨eb, 5, none⟩ (.string ⟨#[]⟩)).setCell ⟨eb, 6, none⟩ (.slice (some ⟨W.heap.size, 0, none⟩) 1 1)).alloc (.cells #[v0, v1, v2, v3, v4, v5, v6] 27)) := by
  have ho := H.old
  have he := H.ebl
  have hel := H.ebx.lt
  have hz := size7 (W := W) eb (.int .i64 k) (.int .u64 0) (.int .u64 0) (.int .u64 0) (.int .u64 0) (.string ⟨#[]⟩) (.slice (some ⟨W.heap.size, 0, none⟩) 1 1)
  have h1 := grown_set7 H.grown (show w.heap.size ≤ eb by omega) (.int .i64 k) (.int .u64 0) (.int .u64 0) (.int .u64 0) (.int .u64 0) (.string ⟨#[]⟩) (.slice (some ⟨W.heap.size, 0, none⟩) 1 1)
  have h2 := H.ex.set7 (k := eb) (fun hb => hb.2.2 rfl) (.int .i64 k) (.int .u64 0) (.int .u64 0) (.int .u64 0) (.int .u64 0) (.string ⟨#[]⟩) (.slice (some ⟨W.heap.size, 0, none⟩) 1 1)
  have h3 := H.rd.set7 (k := eb) (by omega) (.int .i64 k) (.int .u64 0) (.int .u64 0) (.int .u64 0) (.int .u64 0) (.string ⟨#[]⟩) (.slice (some ⟨W.heap.size, 0, none⟩) 1 1)
  have hne : w.heap.size ≠ eb := by omega
  have h4 := ((((((H.box.far (p := ⟨eb, 0, none⟩) hne (.int .i64 k)).far (p := ⟨eb, 1, none⟩) hne (.int .u64 0)).far (p := ⟨eb, 2, none⟩) hne (.int .u64 0)).far (p := ⟨eb, 3, none⟩) hne (.int .u64 0)).far (p := ⟨eb, 4, none⟩) hne (.int .u64 0)).far (p := ⟨eb, 5, none⟩) hne (.string ⟨#[]⟩)).far (p := ⟨eb, 6, none⟩) hne (.slice (some ⟨W.heap.size, 0, none⟩) 1 1)
  have b0 : Blk (W.setCell ⟨eb, 0, none⟩ (.int .i64 k)) eb 27 #[.int .i64 k, v1, v2, v3, v4, v5, v6] := H.ebx.set_ 0 _
  have b1 : Blk ((W.setCell ⟨eb, 0, none⟩ (.int .i64 k)).setCell ⟨eb, 1, none⟩ (.int .u64 0)) eb 27 #[.int .i64 k, .int .u64 0, v2, v3, v4, v5, v6] := b0.set_ 1 _
  have b2 : Blk (((W.setCell ⟨eb, 0, none⟩ (.int .i64 k)).setCell ⟨eb, 1, none⟩ (.int .u64 0)).setCell ⟨eb, 2, none⟩ (.int .u64 0)) eb 27 #[.int .i64 k, .int .u64 0, .int .u64 0, v3, v4, v5, v6] := b1.set_ 2 _
  have b3 : Blk ((((W.setCell ⟨eb, 0, none⟩ (.int .i64 k)).setCell ⟨eb, 1, none⟩ (.int .u64 0)).setCell ⟨eb, 2, none⟩ (.int .u64 0)).setCell ⟨eb, 3, none⟩ (.int .u64 0)) eb 27 #[.int .i64 k, .int .u64 0, .int .u64 0, .int .u64 0, v4, v5, v6] := b2.set_ 3 _
  have b4 : Blk (((((W.setCell ⟨eb, 0, none⟩ (.int .i64 k)).setCell ⟨eb, 1, none⟩ (.int .u64 0)).setCell ⟨eb, 2, none⟩ (.int .u64 0)).setCell ⟨eb, 3, none⟩ (.int .u64 0)).setCell ⟨eb, 4, none⟩ (.int .u64 0)) eb 27 #[.int .i64 k, .int .u64 0, .int .u64 0, .int .u64 0, .int .u64 0, v5, v6] := b3.set_ 4 _
  have b5 : Blk ((((((W.setCell ⟨eb, 0, none⟩ (.int .i64 k)).setCell ⟨eb, 1, none⟩ (.int .u64 0)).setCell ⟨eb, 2, none⟩ (.int .u64 0)).setCell ⟨eb, 3, none⟩ (.int .u64 0)).setCell ⟨eb, 4, none⟩ (.int .u64 0)).setCell ⟨eb, 5, none⟩ (.string ⟨#[]⟩)) eb 27 #[.int .i64 k, .int .u64 0, .int .u64 0, .int .u64 0, .int .u64 0, .string ⟨#[]⟩, v6] := b4.set_ 5 _
  have b6 : Blk (((((((W.setCell ⟨eb, 0, none⟩ (.int .i64 k)).setCell ⟨eb, 1, none⟩ (.int .u64 0)).setCell ⟨eb, 2, none⟩ (.int .u64 0)).setCell ⟨eb, 3, none⟩ (.int .u64 0)).setCell ⟨eb, 4, none⟩ (.int .u64 0)).setCell ⟨eb, 5, none⟩ (.string ⟨#[]⟩)).setCell ⟨eb, 6, none⟩ (.slice (some ⟨W.heap.size, 0, none⟩) 1 1)) eb 27 #[.int .i64 k, .int .u64 0, .int .u64 0, .int .u64 0, .int .u64 0, .string ⟨#[]⟩, .slice (some ⟨W.heap.size, 0, none⟩) 1 1] := b5.set_ 6 _
  clear b0 b1 b2 b3 b4 b5
  generalize (((((((W.setCell ⟨eb, 0, none⟩ (.int .i64 k)).setCell ⟨eb, 1, none⟩ (.int .u64 0)).setCell ⟨eb, 2, none⟩ (.int .u64 0)).setCell ⟨eb, 3, none⟩ (.int .u64 0)).setCell ⟨eb, 4, none⟩ (.int .u64 0)).setCell ⟨eb, 5, none⟩ (.string ⟨#[]⟩)).setCell ⟨eb, 6, none⟩ (.slice (some ⟨W.heap.size, 0, none⟩) 1 1)) = X at hz h1 h2 h3 h4 b6 ⊢
  rw [← hz] at h2 hel b6 ⊢
  have h5 := (h2.keep (W' := X.alloc (.cells #[v0, v1, v2, v3, v4, v5, v6] 27)) fun p hp => World.cell?_alloc_lt X _ p hp.2.1)
  have hb := Blk.new X 27 #[v0, v1, v2, v3, v4, v5, v6]
  have hsz2 : (X.alloc (.cells #[v0, v1, v2, v3, v4, v5, v6] 27)).heap.size = X.heap.size + 1 := by simp
  refine ⟨h1.trans (World.grownBy_alloc _ _ _), h4.alloc _, b6.alloc _, ?_, h3.below ((Below.refl _ _).alloc (Nat.le_refl _) _), he, ho⟩
  exact ExF.one (h5.mono (fun b hb => ⟨hb.1, by rw [hsz2]; omega, hb.2.2⟩) (by rw [hsz2]; omega)) hb rfl ⟨by omega, by rw [hsz2]; omega, by omega⟩ (by rw [hsz2]; omega) k
end
set_option maxRecDepth 100000 in
set_option maxHeartbeats 4000000 in
theorem pre_any (s : ByteArray) (hs : s.size ≤ 100000) (h : Bool) (rb f : Nat) (H : DoesR s h rb f) (l : List UInt8) (R : Rs) (w : World) (hr : RdAt s h rb l w) (hj : rdJ h (f + 1) .pre l = some R) :
    Calls Tryd.prog 118 #[.pointer (some ⟨rb, 0, none⟩)] w (PrsQ s h rb w R) := by
  have HQ : Hid ((∀ x l' cs W', R = .ok x l' → w.grownBy W' (some rb) → ExF (fun b => w.heap.size ≤ b ∧ b < W'.heap.size) W'.heap.size W' x cs → RdAt s h rb l' W' → PrsQ s h rb w R (.returned (.agg cs.toArray)) W') ∧
      (∀ l' W', R = .no l' → w.grownBy W' (some rb) → PrsQ s h rb w R (.panicked [{ v := faultV (posL s l'), recovered := false }]) W')) :=
    ⟨fun x l' cs W' e h1 h2 h3 => by subst e; exact ⟨h1, ⟨cs, rfl, h2⟩, h3⟩, fun l' W' e h1 => by subst e; exact ⟨h1, rfl⟩⟩
  generalize PrsQ s h rb w R = Q at HQ ⊢
  by_cases h38 : ∃ n, tokL l = .sg 38 n
  · obtain ⟨n, ht⟩ := h38
    have hsg : (tkV (tokL l)).sg = 38 := by rw [ht]; rfl
    have y12 : w.cell? ⟨rb, 12, none⟩ = some (.int .u8 38) := (hr.blk.cell 12).trans (by rw [rdC_get, hsg]; rfl)
    have hkn : tkn (tokL l) = n := by rw [ht]; rfl
    rw [pre_op ht (by decide)] at hj
    have hra := hr.below ((Below.refl _ _).alloc (Nat.le_refl _) (.cells #[.int .i64 0, .int .u64 0, .int .u64 0, .int .u64 0, .int .u64 0, .string ⟨#[]⟩, .slice none 0 0] 27))
    have HGO := Lib.hid (go_any s hs h rb l _ hra)
    have HBX : Hid (Blk (w.alloc (.cells #[.int .i64 0, .int .u64 0, .int .u64 0, .int .u64 0, .int .u64 0, .string ⟨#[]⟩, .slice none 0 0] 27)) w.heap.size 27 #[.int .i64 0, .int .u64 0, .int .u64 0, .int .u64 0, .int .u64 0, .string ⟨#[]⟩, .slice none 0 0]) := blk_at rfl
    have HG0 : Hid (w.grownBy (w.alloc (.cells #[.int .i64 0, .int .u64 0, .int .u64 0, .int .u64 0, .int .u64 0, .string ⟨#[]⟩, .slice none 0 0] 27)) (some rb)) := World.grownBy_alloc _ _ _
    have hz : (w.alloc (.cells #[.int .i64 0, .int .u64 0, .int .u64 0, .int .u64 0, .int .u64 0, .string ⟨#[]⟩, .slice none 0 0] 27)).heap.size = w.heap.size + 1 := by simp
    have hblt : rb < w.heap.size := hr.blk.lt
    unfold GoQ at HGO
    rw [hkn] at HGO
    unfold thenGo at hj
    have HPR := Lib.hid H.pre
    clear hsg hkn ht hr hra H
    generalize goL l n = lg at HGO hj
    have HJ := Lib.hid hj
    clear hj
    go_enter Tryd.func118, Tryd.ntmps118
    go_wp2_with fail
    refine HGO.out.mono ?_
    generalize (w.alloc (.cells #[.int .i64 0, .int .u64 0, .int .u64 0, .int .u64 0, .int .u64 0, .string ⟨#[]⟩, .slice none 0 0] 27)) = wa at HGO HBX HG0 hz ⊢
    rintro e w2 ⟨hg2, ⟨hbad, rfl⟩ | ⟨hgood, rfl, hr2⟩⟩
    · have hRe : Rs.no lg = R := by
        have := HJ.out
        rw [if_pos hbad] at this
        exact Option.some.inj this
      have HRE := Lib.hid hRe
      clear hRe
      go_wp2
      exact ⟨rfl, HQ.out.2 _ _ HRE.out.symm (HG0.out.trans hg2)⟩
    · have hj := HJ.out
      rw [if_neg (by rw [hgood]; decide)] at hj
      cases hx : rdJ h f .pre lg with
      | none => rw [hx] at hj; cases hj
      | some R2 =>
      rw [hx] at hj
      have HX := Lib.hid hx
      have HJN := Lib.hid hj
      have HG2 := Lib.hid (HG0.out.trans hg2)
      have HBX2 : Hid (Blk w2 w.heap.size 27 #[.int .i64 0, .int .u64 0, .int .u64 0, .int .u64 0, .int .u64 0, .string ⟨#[]⟩, .slice none 0 0]) := HBX.out.grown hg2 (fun e => by injection e with e; omega)
      have hz2' := hg2.size
      rw [hz] at hz2'
      have HR2 := Lib.hid hr2
      clear hx hj HJ hg2 hr2 hgood HGO HG0 HBX hz
      go_wp2_with fail
      refine (HPR.out lg R2 w2 HR2.out HX.out).mono ?_
      rintro e w3 ⟨hg3, hR3⟩
      cases R2 with
      | no l2 =>
        simp only at hR3
        subst hR3
        have hRe : Rs.no l2 = R := Option.some.inj HJN.out
        have HRE := Lib.hid hRe
        clear hRe
        go_wp2
        exact ⟨rfl, HQ.out.2 _ _ HRE.out.symm (HG2.out.trans hg3)⟩
      | ok x l2 =>
        obtain ⟨⟨cs, rfl, hE⟩, hr3⟩ := hR3
        obtain ⟨k2, a2, b2, c2, d2, t2, A2, n2, cp2, rfl⟩ := Ex.parts _ hE.is
        have hRe : Rs.ok (.mk 10 0 0 0 0 ⟨#[]⟩ [x]) l2 = R := Option.some.inj HJN.out
        have HRE : Hid (R = .ok (.mk 10 0 0 0 0 ⟨#[]⟩ [x]) l2) := hRe.symm
        clear hRe HJN
        have hsz3 := hg3.size
        have hbx3 : Blk w3 w.heap.size 27 #[.int .i64 0, .int .u64 0, .int .u64 0, .int .u64 0, .int .u64 0, .string ⟨#[]⟩, .slice none 0 0] := HBX2.out.grown hg3 (fun e => by injection e with e; omega)
        have hK := kid_res (k := 10) (w := w) hE hr3 (HG2.out.trans hg3) hz2' hblt hsz3 hbx3
        clear hE hr3 hg3
        have hob := hbx3.lt
        have yz0 : w3.cell? ⟨w.heap.size, 0, none⟩ = some (.int .i64 0) := hbx3.cell 0; have yz1 : w3.cell? ⟨w.heap.size, 1, none⟩ = some (.int .u64 0) := hbx3.cell 1; have yz2 : w3.cell? ⟨w.heap.size, 2, none⟩ = some (.int .u64 0) := hbx3.cell 2; have yz3 : w3.cell? ⟨w.heap.size, 3, none⟩ = some (.int .u64 0) := hbx3.cell 3; have yz4 : w3.cell? ⟨w.heap.size, 4, none⟩ = some (.int .u64 0) := hbx3.cell 4; have yz5 : w3.cell? ⟨w.heap.size, 5, none⟩ = some (.string ⟨#[]⟩) := hbx3.cell 5; have yz6 : w3.cell? ⟨w.heap.size, 6, none⟩ = some (.slice none 0 0) := hbx3.cell 6; have yf0 := hbx3.frozen 0; have yf1 := hbx3.frozen 1; have yf2 := hbx3.frozen 2; have yf3 := hbx3.frozen 3; have yf4 := hbx3.frozen 4; have yf5 := hbx3.frozen 5; have yf6 := hbx3.frozen 6; have ye0 : (w3.setCell ⟨w.heap.size, 0, none⟩ (.int .i64 10)).cell? ⟨w.heap.size, 0, none⟩ = some (.int .i64 10) := (hbx3.set_ 0 _).cell 0; have ye1 : ((w3.setCell ⟨w.heap.size, 0, none⟩ (.int .i64 10)).setCell ⟨w.heap.size, 1, none⟩ (.int .u64 0)).cell? ⟨w.heap.size, 1, none⟩ = some (.int .u64 0) := ((hbx3.set_ 0 _).set_ 1 _).cell 1; have ye2 : (((w3.setCell ⟨w.heap.size, 0, none⟩ (.int .i64 10)).setCell ⟨w.heap.size, 1, none⟩ (.int .u64 0)).setCell ⟨w.heap.size, 2, none⟩ (.int .u64 0)).cell? ⟨w.heap.size, 2, none⟩ = some (.int .u64 0) := (((hbx3.set_ 0 _).set_ 1 _).set_ 2 _).cell 2; have ye3 : ((((w3.setCell ⟨w.heap.size, 0, none⟩ (.int .i64 10)).setCell ⟨w.heap.size, 1, none⟩ (.int .u64 0)).setCell ⟨w.heap.size, 2, none⟩ (.int .u64 0)).setCell ⟨w.heap.size, 3, none⟩ (.int .u64 0)).cell? ⟨w.heap.size, 3, none⟩ = some (.int .u64 0) := ((((hbx3.set_ 0 _).set_ 1 _).set_ 2 _).set_ 3 _).cell 3; have ye4 : (((((w3.setCell ⟨w.heap.size, 0, none⟩ (.int .i64 10)).setCell ⟨w.heap.size, 1, none⟩ (.int .u64 0)).setCell ⟨w.heap.size, 2, none⟩ (.int .u64 0)).setCell ⟨w.heap.size, 3, none⟩ (.int .u64 0)).setCell ⟨w.heap.size, 4, none⟩ (.int .u64 0)).cell? ⟨w.heap.size, 4, none⟩ = some (.int .u64 0) := (((((hbx3.set_ 0 _).set_ 1 _).set_ 2 _).set_ 3 _).set_ 4 _).cell 4; have ye5 : ((((((w3.setCell ⟨w.heap.size, 0, none⟩ (.int .i64 10)).setCell ⟨w.heap.size, 1, none⟩ (.int .u64 0)).setCell ⟨w.heap.size, 2, none⟩ (.int .u64 0)).setCell ⟨w.heap.size, 3, none⟩ (.int .u64 0)).setCell ⟨w.heap.size, 4, none⟩ (.int .u64 0)).setCell ⟨w.heap.size, 5, none⟩ (.string ⟨#[]⟩)).cell? ⟨w.heap.size, 5, none⟩ = some (.string ⟨#[]⟩) := ((((((hbx3.set_ 0 _).set_ 1 _).set_ 2 _).set_ 3 _).set_ 4 _).set_ 5 _).cell 5; have ye6 : (((((((w3.setCell ⟨w.heap.size, 0, none⟩ (.int .i64 10)).setCell ⟨w.heap.size, 1, none⟩ (.int .u64 0)).setCell ⟨w.heap.size, 2, none⟩ (.int .u64 0)).setCell ⟨w.heap.size, 3, none⟩ (.int .u64 0)).setCell ⟨w.heap.size, 4, none⟩ (.int .u64 0)).setCell ⟨w.heap.size, 5, none⟩ (.string ⟨#[]⟩)).setCell ⟨w.heap.size, 6, none⟩ (.slice (some ⟨w3.heap.size,  0,  none⟩) 1 1)).cell? ⟨w.heap.size, 6, none⟩ = some (.slice (some ⟨w3.heap.size,  0,  none⟩) 1 1) := (((((((hbx3.set_ 0 _).set_ 1 _).set_ 2 _).set_ 3 _).set_ 4 _).set_ 5 _).set_ 6 _).cell 6
        have HK := Lib.hid hK
        clear hK
        go_wp2
        have hK := HK.out
        clear HK ye0 ye1 ye2 ye3 ye4 ye5 ye6 yz0 yz1 yz2 yz3 yz4 yz5 yz6 yf0 yf1 yf2 yf3 yf4 yf5 yf6
        generalize w3.heap.size = sb at hK ⊢
        generalize ((((((((w3.setCell ⟨w.heap.size, 0, none⟩ (.int .i64 10)).setCell ⟨w.heap.size, 1, none⟩ (.int .u64 0)).setCell ⟨w.heap.size, 2, none⟩ (.int .u64 0)).setCell ⟨w.heap.size, 3, none⟩ (.int .u64 0)).setCell ⟨w.heap.size, 4, none⟩ (.int .u64 0)).setCell ⟨w.heap.size, 5, none⟩ (.string ⟨#[]⟩)).setCell ⟨w.heap.size, 6, none⟩ (.slice (some ⟨sb, 0, none⟩) 1 1)).alloc (.cells #[.int .i64 k2, .int .u64 a2, .int .u64 b2, .int .u64 c2, .int .u64 d2, .string t2, .slice A2 n2 cp2] 27)) = W9 at hK ⊢
        obtain ⟨hK1, hK2, hK3, hK4⟩ := hK
        have ye0 := hK4.cell 0
        have ye1 := hK4.cell 1
        have ye2 := hK4.cell 2
        have ye3 := hK4.cell 3
        have ye4 := hK4.cell 4
        have ye5 := hK4.cell 5
        have ye6 := hK4.cell 6
        exact bodyPost_ret (v := .agg #[.int .i64 10, .int .u64 0, .int .u64 0, .int .u64 0, .int .u64 0, .string ⟨#[]⟩, .slice (some ⟨sb,0,none⟩) 1 1]) (by simp [results, Tryd.results118, go_sem, ye0, ye1, ye2, ye3, ye4, ye5, ye6]) rfl (HQ.out.1 _ _ [.int .i64 10, .int .u64 0, .int .u64 0, .int .u64 0, .int .u64 0, .string ⟨#[]⟩, .slice (some ⟨sb,0,none⟩) 1 1] _ HRE.out hK1 hK2 hK3)
  · by_cases h33 : ∃ n, tokL l = .sg 33 n
    · obtain ⟨n, ht⟩ := h33
      clear h38
      have hsg : (tkV (tokL l)).sg = 33 := by rw [ht]; rfl
      have y12 : w.cell? ⟨rb, 12, none⟩ = some (.int .u8 33) := (hr.blk.cell 12).trans (by rw [rdC_get, hsg]; rfl)
      have hkn : tkn (tokL l) = n := by rw [ht]; rfl
      rw [pre_op ht (by decide)] at hj
      have hra := hr.below ((Below.refl _ _).alloc (Nat.le_refl _) (.cells #[.int .i64 0, .int .u64 0, .int .u64 0, .int .u64 0, .int .u64 0, .string ⟨#[]⟩, .slice none 0 0] 27))
      have HGO := Lib.hid (go_any s hs h rb l _ hra)
      have HBX : Hid (Blk (w.alloc (.cells #[.int .i64 0, .int .u64 0, .int .u64 0, .int .u64 0, .int .u64 0, .string ⟨#[]⟩, .slice none 0 0] 27)) w.heap.size 27 #[.int .i64 0, .int .u64 0, .int .u64 0, .int .u64 0, .int .u64 0, .string ⟨#[]⟩, .slice none 0 0]) := blk_at rfl
      have HG0 : Hid (w.grownBy (w.alloc (.cells #[.int .i64 0, .int .u64 0, .int .u64 0, .int .u64 0, .int .u64 0, .string ⟨#[]⟩, .slice none 0 0] 27)) (some rb)) := World.grownBy_alloc _ _ _
      have hz : (w.alloc (.cells #[.int .i64 0, .int .u64 0, .int .u64 0, .int .u64 0, .int .u64 0, .string ⟨#[]⟩, .slice none 0 0] 27)).heap.size = w.heap.size + 1 := by simp
      have hblt : rb < w.heap.size := hr.blk.lt
      unfold GoQ at HGO
      rw [hkn] at HGO
      unfold thenGo at hj
      have HPR := Lib.hid H.pre
      clear hsg hkn ht hr hra H
      generalize goL l n = lg at HGO hj
      have HJ := Lib.hid hj
      clear hj
      go_enter Tryd.func118, Tryd.ntmps118
      go_wp2_with fail
      refine HGO.out.mono ?_
      generalize (w.alloc (.cells #[.int .i64 0, .int .u64 0, .int .u64 0, .int .u64 0, .int .u64 0, .string ⟨#[]⟩, .slice none 0 0] 27)) = wa at HGO HBX HG0 hz ⊢
      rintro e w2 ⟨hg2, ⟨hbad, rfl⟩ | ⟨hgood, rfl, hr2⟩⟩
      · have hRe : Rs.no lg = R := by
          have := HJ.out
          rw [if_pos hbad] at this
          exact Option.some.inj this
        have HRE := Lib.hid hRe
        clear hRe
        go_wp2
        exact ⟨rfl, HQ.out.2 _ _ HRE.out.symm (HG0.out.trans hg2)⟩
      · have hj := HJ.out
        rw [if_neg (by rw [hgood]; decide)] at hj
        cases hx : rdJ h f .pre lg with
        | none => rw [hx] at hj; cases hj
        | some R2 =>
        rw [hx] at hj
        have HX := Lib.hid hx
        have HJN := Lib.hid hj
        have HG2 := Lib.hid (HG0.out.trans hg2)
        have HBX2 : Hid (Blk w2 w.heap.size 27 #[.int .i64 0, .int .u64 0, .int .u64 0, .int .u64 0, .int .u64 0, .string ⟨#[]⟩, .slice none 0 0]) := HBX.out.grown hg2 (fun e => by injection e with e; omega)
        have hz2' := hg2.size
        rw [hz] at hz2'
        have HR2 := Lib.hid hr2
        clear hx hj HJ hg2 hr2 hgood HGO HG0 HBX hz
        go_wp2_with fail
        refine (HPR.out lg R2 w2 HR2.out HX.out).mono ?_
        rintro e w3 ⟨hg3, hR3⟩
        cases R2 with
        | no l2 =>
          simp only at hR3
          subst hR3
          have hRe : Rs.no l2 = R := Option.some.inj HJN.out
          have HRE := Lib.hid hRe
          clear hRe
          go_wp2
          exact ⟨rfl, HQ.out.2 _ _ HRE.out.symm (HG2.out.trans hg3)⟩
        | ok x l2 =>
          obtain ⟨⟨cs, rfl, hE⟩, hr3⟩ := hR3
          obtain ⟨k2, a2, b2, c2, d2, t2, A2, n2, cp2, rfl⟩ := Ex.parts _ hE.is
          have hRe : Rs.ok (.mk 11 0 0 0 0 ⟨#[]⟩ [x]) l2 = R := Option.some.inj HJN.out
          have HRE : Hid (R = .ok (.mk 11 0 0 0 0 ⟨#[]⟩ [x]) l2) := hRe.symm
          clear hRe HJN
          have hsz3 := hg3.size
          have hbx3 : Blk w3 w.heap.size 27 #[.int .i64 0, .int .u64 0, .int .u64 0, .int .u64 0, .int .u64 0, .string ⟨#[]⟩, .slice none 0 0] := HBX2.out.grown hg3 (fun e => by injection e with e; omega)
          have hK := kid_res (k := 11) (w := w) hE hr3 (HG2.out.trans hg3) hz2' hblt hsz3 hbx3
          clear hE hr3 hg3
          have hob := hbx3.lt
          have yz0 : w3.cell? ⟨w.heap.size, 0, none⟩ = some (.int .i64 0) := hbx3.cell 0; have yz1 : w3.cell? ⟨w.heap.size, 1, none⟩ = some (.int .u64 0) := hbx3.cell 1; have yz2 : w3.cell? ⟨w.heap.size, 2, none⟩ = some (.int .u64 0) := hbx3.cell 2; have yz3 : w3.cell? ⟨w.heap.size, 3, none⟩ = some (.int .u64 0) := hbx3.cell 3; have yz4 : w3.cell? ⟨w.heap.size, 4, none⟩ = some (.int .u64 0) := hbx3.cell 4; have yz5 : w3.cell? ⟨w.heap.size, 5, none⟩ = some (.string ⟨#[]⟩) := hbx3.cell 5; have yz6 : w3.cell? ⟨w.heap.size, 6, none⟩ = some (.slice none 0 0) := hbx3.cell 6; have yf0 := hbx3.frozen 0; have yf1 := hbx3.frozen 1; have yf2 := hbx3.frozen 2; have yf3 := hbx3.frozen 3; have yf4 := hbx3.frozen 4; have yf5 := hbx3.frozen 5; have yf6 := hbx3.frozen 6; have ye0 : (w3.setCell ⟨w.heap.size, 0, none⟩ (.int .i64 11)).cell? ⟨w.heap.size, 0, none⟩ = some (.int .i64 11) := (hbx3.set_ 0 _).cell 0; have ye1 : ((w3.setCell ⟨w.heap.size, 0, none⟩ (.int .i64 11)).setCell ⟨w.heap.size, 1, none⟩ (.int .u64 0)).cell? ⟨w.heap.size, 1, none⟩ = some (.int .u64 0) := ((hbx3.set_ 0 _).set_ 1 _).cell 1; have ye2 : (((w3.setCell ⟨w.heap.size, 0, none⟩ (.int .i64 11)).setCell ⟨w.heap.size, 1, none⟩ (.int .u64 0)).setCell ⟨w.heap.size, 2, none⟩ (.int .u64 0)).cell? ⟨w.heap.size, 2, none⟩ = some (.int .u64 0) := (((hbx3.set_ 0 _).set_ 1 _).set_ 2 _).cell 2; have ye3 : ((((w3.setCell ⟨w.heap.size, 0, none⟩ (.int .i64 11)).setCell ⟨w.heap.size, 1, none⟩ (.int .u64 0)).setCell ⟨w.heap.size, 2, none⟩ (.int .u64 0)).setCell ⟨w.heap.size, 3, none⟩ (.int .u64 0)).cell? ⟨w.heap.size, 3, none⟩ = some (.int .u64 0) := ((((hbx3.set_ 0 _).set_ 1 _).set_ 2 _).set_ 3 _).cell 3; have ye4 : (((((w3.setCell ⟨w.heap.size, 0, none⟩ (.int .i64 11)).setCell ⟨w.heap.size, 1, none⟩ (.int .u64 0)).setCell ⟨w.heap.size, 2, none⟩ (.int .u64 0)).setCell ⟨w.heap.size, 3, none⟩ (.int .u64 0)).setCell ⟨w.heap.size, 4, none⟩ (.int .u64 0)).cell? ⟨w.heap.size, 4, none⟩ = some (.int .u64 0) := (((((hbx3.set_ 0 _).set_ 1 _).set_ 2 _).set_ 3 _).set_ 4 _).cell 4; have ye5 : ((((((w3.setCell ⟨w.heap.size, 0, none⟩ (.int .i64 11)).setCell ⟨w.heap.size, 1, none⟩ (.int .u64 0)).setCell ⟨w.heap.size, 2, none⟩ (.int .u64 0)).setCell ⟨w.heap.size, 3, none⟩ (.int .u64 0)).setCell ⟨w.heap.size, 4, none⟩ (.int .u64 0)).setCell ⟨w.heap.size, 5, none⟩ (.string ⟨#[]⟩)).cell? ⟨w.heap.size, 5, none⟩ = some (.string ⟨#[]⟩) := ((((((hbx3.set_ 0 _).set_ 1 _).set_ 2 _).set_ 3 _).set_ 4 _).set_ 5 _).cell 5; have ye6 : (((((((w3.setCell ⟨w.heap.size, 0, none⟩ (.int .i64 11)).setCell ⟨w.heap.size, 1, none⟩ (.int .u64 0)).setCell ⟨w.heap.size, 2, none⟩ (.int .u64 0)).setCell ⟨w.heap.size, 3, none⟩ (.int .u64 0)).setCell ⟨w.heap.size, 4, none⟩ (.int .u64 0)).setCell ⟨w.heap.size, 5, none⟩ (.string ⟨#[]⟩)).setCell ⟨w.heap.size, 6, none⟩ (.slice (some ⟨w3.heap.size,  0,  none⟩) 1 1)).cell? ⟨w.heap.size, 6, none⟩ = some (.slice (some ⟨w3.heap.size,  0,  none⟩) 1 1) := (((((((hbx3.set_ 0 _).set_ 1 _).set_ 2 _).set_ 3 _).set_ 4 _).set_ 5 _).set_ 6 _).cell 6
          have HK := Lib.hid hK
          clear hK
          go_wp2
          have hK := HK.out
          clear HK ye0 ye1 ye2 ye3 ye4 ye5 ye6 yz0 yz1 yz2 yz3 yz4 yz5 yz6 yf0 yf1 yf2 yf3 yf4 yf5 yf6
          generalize w3.heap.size = sb at hK ⊢
          generalize ((((((((w3.setCell ⟨w.heap.size, 0, none⟩ (.int .i64 11)).setCell ⟨w.heap.size, 1, none⟩ (.int .u64 0)).setCell ⟨w.heap.size, 2, none⟩ (.int .u64 0)).setCell ⟨w.heap.size, 3, none⟩ (.int .u64 0)).setCell ⟨w.heap.size, 4, none⟩ (.int .u64 0)).setCell ⟨w.heap.size, 5, none⟩ (.string ⟨#[]⟩)).setCell ⟨w.heap.size, 6, none⟩ (.slice (some ⟨sb, 0, none⟩) 1 1)).alloc (.cells #[.int .i64 k2, .int .u64 a2, .int .u64 b2, .int .u64 c2, .int .u64 d2, .string t2, .slice A2 n2 cp2] 27)) = W9 at hK ⊢
          obtain ⟨hK1, hK2, hK3, hK4⟩ := hK
          have ye0 := hK4.cell 0
          have ye1 := hK4.cell 1
          have ye2 := hK4.cell 2
          have ye3 := hK4.cell 3
          have ye4 := hK4.cell 4
          have ye5 := hK4.cell 5
          have ye6 := hK4.cell 6
          exact bodyPost_ret (v := .agg #[.int .i64 11, .int .u64 0, .int .u64 0, .int .u64 0, .int .u64 0, .string ⟨#[]⟩, .slice (some ⟨sb,0,none⟩) 1 1]) (by simp [results, Tryd.results118, go_sem, ye0, ye1, ye2, ye3, ye4, ye5, ye6]) rfl (HQ.out.1 _ _ [.int .i64 11, .int .u64 0, .int .u64 0, .int .u64 0, .int .u64 0, .string ⟨#[]⟩, .slice (some ⟨sb,0,none⟩) 1 1] _ HRE.out hK1 hK2 hK3)
    · have hnop : ∀ c n, tokL l = .sg c n → ¬ (c = 38 ∨ c = 33) := fun c n e hc => by
        rcases hc with rfl | rfl
        · exact h38 ⟨n, e⟩
        · exact h33 ⟨n, e⟩
      rw [pre_pri hnop] at hj
      have hs38 := sg_ne (l := l) (c := 38) (fun n e => h38 ⟨n, e⟩) (by decide)
      have hs33 := sg_ne (l := l) (c := 33) (fun n e => h33 ⟨n, e⟩) (by decide)
      have y12 := hr.blk.cell 12
      rw [rdC_get] at y12
      have e38 : (((tkV (tokL l)).sg : Int) == 38) = false := by rw [beq_eq_false_iff_ne]; omega
      have e33 : (((tkV (tokL l)).sg : Int) == 33) = false := by rw [beq_eq_false_iff_ne]; omega
      generalize (tkV (tokL l)).sg = sgv at y12 e38 e33
      have hold := hr.blk.lt
      clear hnop hs38 hs33 h38 h33
      cases hx : rdJ h f .pri l with
      | none => rw [hx] at hj; cases hj
      | some R1 =>
        rw [hx] at hj
        have HP := Lib.hid (H.pri l R1 _ (hr.below ((Below.refl _ _).alloc (Nat.le_refl _) (.cells #[.int .i64 0, .int .u64 0, .int .u64 0, .int .u64 0, .int .u64 0, .string ⟨#[]⟩, .slice none 0 0] 27))) hx)
        have HBX : Hid (Blk (w.alloc (.cells #[.int .i64 0, .int .u64 0, .int .u64 0, .int .u64 0, .int .u64 0, .string ⟨#[]⟩, .slice none 0 0] 27)) w.heap.size 27 #[.int .i64 0, .int .u64 0, .int .u64 0, .int .u64 0, .int .u64 0, .string ⟨#[]⟩, .slice none 0 0]) := blk_at rfl
        have HG0 : Hid (w.grownBy (w.alloc (.cells #[.int .i64 0, .int .u64 0, .int .u64 0, .int .u64 0, .int .u64 0, .string ⟨#[]⟩, .slice none 0 0] 27)) (some rb)) := World.grownBy_alloc _ _ _
        have hz : (w.alloc (.cells #[.int .i64 0, .int .u64 0, .int .u64 0, .int .u64 0, .int .u64 0, .string ⟨#[]⟩, .slice none 0 0] 27)).heap.size = w.heap.size + 1 := by simp
        clear hx hr H
        go_enter Tryd.func118, Tryd.ntmps118
        go_wp2_with fail
        refine HP.out.mono ?_
        generalize (w.alloc (.cells #[.int .i64 0, .int .u64 0, .int .u64 0, .int .u64 0, .int .u64 0, .string ⟨#[]⟩, .slice none 0 0] 27)) = wa at HP HBX HG0 hz ⊢
        rintro e w1 ⟨hg1, hR1⟩
        cases R1 with
        | no l1 =>
          simp only at hR1
          subst hR1
          injection hj with hj
          go_wp2
          exact ⟨rfl, HQ.out.2 _ _ hj.symm (HG0.out.trans hg1)⟩
        | ok x l1 =>
          obtain ⟨⟨cs, rfl, hE⟩, hr1⟩ := hR1
          obtain ⟨k1, a1, b1, c1, d1, t1, A1, n1, cp1, rfl⟩ := Ex.parts _ hE.is
          have HJ1 : Hid (rdJ h f (.post x) l1 = some R) := hj
          rw [hz] at hE
          have hsz1 := hg1.size
          rw [hz] at hsz1
          have hI1 : PoI s h rb w w1.heap.size x (.int .i64 k1) (.int .u64 a1) (.int .u64 b1) (.int .u64 c1) (.int .u64 d1) (.string t1) (.slice A1 n1 cp1) l1 (w1.alloc (.cells #[.int .i64 k1, .int .u64 a1, .int .u64 b1, .int .u64 c1, .int .u64 d1, .string t1, .slice A1 n1 cp1] 27)) :=
            ⟨(HG0.out.trans hg1).trans (World.grownBy_alloc _ _ _), (HBX.out.grown hg1 (fun e => by injection e with e; omega)).alloc _, blk_at rfl,
              (hE.keep (W' := w1.alloc (.cells #[.int .i64 k1, .int .u64 a1, .int .u64 b1, .int .u64 c1, .int .u64 d1, .string t1, .slice A1 n1 cp1] 27)) fun p hp => World.cell?_alloc_lt w1 _ p hp.2).mono (fun b hb => ⟨hb.1, by simp; omega, by omega⟩) (by simp), hr1.below ((Below.refl _ _).alloc (Nat.le_refl _) _), hsz1, hold⟩
          have HI1 := Lib.hid hI1
          clear hI1 hj hE hr1 hg1 HP HBX HG0 hz
          go_wp2_with fail
          generalize w1.heap.size = eb at HI1 hsz1 ⊢
          go_loopg [4] f (fun n s4 wr => ∃ (x : Ex) (k1 a1 b1 c1 d1 : Int) (t1 : ByteArray) (A1 : Option Addr) (n1 cp1 : Nat) (l' : List UInt8), Hid (PoI s h rb w eb x (.int .i64 k1) (.int .u64 a1) (.int .u64 b1) (.int .u64 c1) (.int .u64 d1) (.string t1) (.slice A1 n1 cp1) l' wr) ∧ Hid (n ≤ f ∧ rdJ h n (.post x) l' = some R))
          case atStart => exact ⟨x, k1, a1, b1, c1, d1, t1, A1, n1, cp1, l1, HI1, Nat.le_refl _, HJ1.out⟩
          case round =>
            clear HI1 HJ1 y12 e38 e33
            obtain ⟨x, k1, a1, b1, c1, d1, t1, A1, n1, cp1, l', HI, HJ⟩ := hrel
            have hI := HI.out
            obtain ⟨hn, hjn⟩ := HJ.out
            obtain ⟨n', rfl⟩ : ∃ n', gk = n' + 1 := by
              cases gk with
              | zero => cases hjn
              | succ n => exact ⟨n, rfl⟩
            by_cases h63 : ∃ n, tokL l' = .sg 63 n
            · obtain ⟨n, ht⟩ := h63
              have hsg : (tkV (tokL l')).sg = 63 := by rw [ht]; rfl
              have y12 : wr.cell? ⟨rb, 12, none⟩ = some (.int .u8 63) := (hI.rd.blk.cell 12).trans (by rw [rdC_get, hsg]; rfl)
              have hkn : tkn (tokL l') = n := by rw [ht]; rfl
              rw [post_op ht (by decide)] at hjn
              have HGO := Lib.hid (go_any s hs h rb l' wr hI.rd)
              unfold GoQ at HGO
              rw [hkn] at HGO
              unfold thenGo at hjn
              clear hsg hkn ht
              generalize goL l' n = lg at HGO hjn
              have HJN := Lib.hid hjn
              clear hjn HJ hI
              go_wp2_with fail
              refine HGO.out.mono ?_
              rintro e w2 ⟨hg2, ⟨hbad, rfl⟩ | ⟨hgood, rfl, hr2⟩⟩
              · have hRe : Rs.no lg = R := by
                  have := HJN.out
                  rw [if_pos hbad] at this
                  exact Option.some.inj this
                have HRE := Lib.hid hRe
                clear hRe
                go_wp2
                exact ⟨rfl, HQ.out.2 _ _ HRE.out.symm (HI.out.grown.trans hg2)⟩
              · have hI2 := HI.out.went hg2 hr2
                have hjn := HJN.out
                rw [if_neg (by rw [hgood]; decide)] at hjn
                have HJ2 : Hid (rdJ h n' (.post (.mk 9 0 0 0 0 ⟨#[]⟩ [x])) lg = some R) := hjn
                have HI3 := Lib.hid (hI2.post 9)
                have hbe := hI2.ebx
                have heb := hbe.lt
                clear hjn HJN HGO hg2 hr2 hI2 HI y12
                have yz0 := hbe.cell 0; have yz1 := hbe.cell 1; have yz2 := hbe.cell 2; have yz3 := hbe.cell 3; have yz4 := hbe.cell 4; have yz5 := hbe.cell 5; have yz6 := hbe.cell 6
                have yf0 := hbe.frozen 0; have yf1 := hbe.frozen 1; have yf2 := hbe.frozen 2; have yf3 := hbe.frozen 3; have yf4 := hbe.frozen 4; have yf5 := hbe.frozen 5; have yf6 := hbe.frozen 6
                go_wp2
                go_roundg n'
                case rel => exact ⟨_, _, _, _, _, _, _, _, _, _, lg, HI3, by omega, HJ2.out⟩
                case measure => omega
            · by_cases h42 : ∃ n, tokL l' = .sg 42 n
              · obtain ⟨n, ht⟩ := h42
                clear h63
                have hsg : (tkV (tokL l')).sg = 42 := by rw [ht]; rfl
                have y12 : wr.cell? ⟨rb, 12, none⟩ = some (.int .u8 42) := (hI.rd.blk.cell 12).trans (by rw [rdC_get, hsg]; rfl)
                have hkn : tkn (tokL l') = n := by rw [ht]; rfl
                rw [post_op ht (by decide)] at hjn
                have HGO := Lib.hid (go_any s hs h rb l' wr hI.rd)
                unfold GoQ at HGO
                rw [hkn] at HGO
                unfold thenGo at hjn
                clear hsg hkn ht
                generalize goL l' n = lg at HGO hjn
                have HJN := Lib.hid hjn
                clear hjn HJ hI
                go_wp2_with fail
                refine HGO.out.mono ?_
                rintro e w2 ⟨hg2, ⟨hbad, rfl⟩ | ⟨hgood, rfl, hr2⟩⟩
                · have hRe : Rs.no lg = R := by
                    have := HJN.out
                    rw [if_pos hbad] at this
                    exact Option.some.inj this
                  have HRE := Lib.hid hRe
                  clear hRe
                  go_wp2
                  exact ⟨rfl, HQ.out.2 _ _ HRE.out.symm (HI.out.grown.trans hg2)⟩
                · have hI2 := HI.out.went hg2 hr2
                  have hjn := HJN.out
                  rw [if_neg (by rw [hgood]; decide)] at hjn
                  have HJ2 : Hid (rdJ h n' (.post (.mk 7 0 0 0 0 ⟨#[]⟩ [x])) lg = some R) := hjn
                  have HI3 := Lib.hid (hI2.post 7)
                  have hbe := hI2.ebx
                  have heb := hbe.lt
                  clear hjn HJN HGO hg2 hr2 hI2 HI y12
                  have yz0 := hbe.cell 0; have yz1 := hbe.cell 1; have yz2 := hbe.cell 2; have yz3 := hbe.cell 3; have yz4 := hbe.cell 4; have yz5 := hbe.cell 5; have yz6 := hbe.cell 6
                  have yf0 := hbe.frozen 0; have yf1 := hbe.frozen 1; have yf2 := hbe.frozen 2; have yf3 := hbe.frozen 3; have yf4 := hbe.frozen 4; have yf5 := hbe.frozen 5; have yf6 := hbe.frozen 6
                  go_wp2
                  go_roundg n'
                  case rel => exact ⟨_, _, _, _, _, _, _, _, _, _, lg, HI3, by omega, HJ2.out⟩
                  case measure => omega
              · by_cases h43 : ∃ n, tokL l' = .sg 43 n
                · obtain ⟨n, ht⟩ := h43
                  clear h63 h42
                  have hsg : (tkV (tokL l')).sg = 43 := by rw [ht]; rfl
                  have y12 : wr.cell? ⟨rb, 12, none⟩ = some (.int .u8 43) := (hI.rd.blk.cell 12).trans (by rw [rdC_get, hsg]; rfl)
                  have hkn : tkn (tokL l') = n := by rw [ht]; rfl
                  rw [post_op ht (by decide)] at hjn
                  have HGO := Lib.hid (go_any s hs h rb l' wr hI.rd)
                  unfold GoQ at HGO
                  rw [hkn] at HGO
                  unfold thenGo at hjn
                  clear hsg hkn ht
                  generalize goL l' n = lg at HGO hjn
                  have HJN := Lib.hid hjn
                  clear hjn HJ hI
                  go_wp2_with fail
                  refine HGO.out.mono ?_
                  rintro e w2 ⟨hg2, ⟨hbad, rfl⟩ | ⟨hgood, rfl, hr2⟩⟩
                  · have hRe : Rs.no lg = R := by
                      have := HJN.out
                      rw [if_pos hbad] at this
                      exact Option.some.inj this
                    have HRE := Lib.hid hRe
                    clear hRe
                    go_wp2
                    exact ⟨rfl, HQ.out.2 _ _ HRE.out.symm (HI.out.grown.trans hg2)⟩
                  · have hI2 := HI.out.went hg2 hr2
                    have hjn := HJN.out
                    rw [if_neg (by rw [hgood]; decide)] at hjn
                    have HJ2 : Hid (rdJ h n' (.post (.mk 8 0 0 0 0 ⟨#[]⟩ [x])) lg = some R) := hjn
                    have HI3 := Lib.hid (hI2.post 8)
                    have hbe := hI2.ebx
                    have heb := hbe.lt
                    clear hjn HJN HGO hg2 hr2 hI2 HI y12
                    have yz0 := hbe.cell 0; have yz1 := hbe.cell 1; have yz2 := hbe.cell 2; have yz3 := hbe.cell 3; have yz4 := hbe.cell 4; have yz5 := hbe.cell 5; have yz6 := hbe.cell 6
                    have yf0 := hbe.frozen 0; have yf1 := hbe.frozen 1; have yf2 := hbe.frozen 2; have yf3 := hbe.frozen 3; have yf4 := hbe.frozen 4; have yf5 := hbe.frozen 5; have yf6 := hbe.frozen 6
                    go_wp2
                    go_roundg n'
                    case rel => exact ⟨_, _, _, _, _, _, _, _, _, _, lg, HI3, by omega, HJ2.out⟩
                    case measure => omega
                · rw [post_end (fun c n e hc => by
                    rcases hc with rfl | rfl | rfl
                    · exact h63 ⟨n, e⟩
                    · exact h42 ⟨n, e⟩
                    · exact h43 ⟨n, e⟩)] at hjn
                  have hs63 := sg_ne (l := l') (c := 63) (fun n e => h63 ⟨n, e⟩) (by decide)
                  have hs42 := sg_ne (l := l') (c := 42) (fun n e => h42 ⟨n, e⟩) (by decide)
                  have hs43 := sg_ne (l := l') (c := 43) (fun n e => h43 ⟨n, e⟩) (by decide)
                  have y12 := hI.rd.blk.cell 12
                  rw [rdC_get] at y12
                  have e63 : (((tkV (tokL l')).sg : Int) == 63) = false := by rw [beq_eq_false_iff_ne]; omega
                  have e42 : (((tkV (tokL l')).sg : Int) == 42) = false := by rw [beq_eq_false_iff_ne]; omega
                  have e43 : (((tkV (tokL l')).sg : Int) == 43) = false := by rw [beq_eq_false_iff_ne]; omega
                  generalize (tkV (tokL l')).sg = sgv at y12 e63 e42 e43
                  have HRE : Hid (R = .ok x l') := (Option.some.inj hjn).symm
                  have z0 := hI.ebx.cell 0
                  have z1 := hI.ebx.cell 1
                  have z2 := hI.ebx.cell 2
                  have z3 := hI.ebx.cell 3
                  have z4 := hI.ebx.cell 4
                  have z5 := hI.ebx.cell 5
                  have z6 := hI.ebx.cell 6
                  have hbx := hI.box
                  have HE := Lib.hid (hI.ex.mono (S' := fun b => w.heap.size + 1 ≤ b ∧ b < wr.heap.size) (fun b hb => ⟨hb.1, hb.2.1⟩) (Nat.le_refl _))
                  clear hjn h63 h42 h43 hs63 hs42 hs43 HJ hI
                  have hob := (hbx).lt
                  have yz0 : wr.cell? ⟨w.heap.size, 0, none⟩ = some (.int .i64 0) := hbx.cell 0; have yz1 : wr.cell? ⟨w.heap.size, 1, none⟩ = some (.int .u64 0) := hbx.cell 1; have yz2 : wr.cell? ⟨w.heap.size, 2, none⟩ = some (.int .u64 0) := hbx.cell 2; have yz3 : wr.cell? ⟨w.heap.size, 3, none⟩ = some (.int .u64 0) := hbx.cell 3; have yz4 : wr.cell? ⟨w.heap.size, 4, none⟩ = some (.int .u64 0) := hbx.cell 4; have yz5 : wr.cell? ⟨w.heap.size, 5, none⟩ = some (.string ⟨#[]⟩) := hbx.cell 5; have yz6 : wr.cell? ⟨w.heap.size, 6, none⟩ = some (.slice none 0 0) := hbx.cell 6; have yf0 := hbx.frozen 0; have yf1 := hbx.frozen 1; have yf2 := hbx.frozen 2; have yf3 := hbx.frozen 3; have yf4 := hbx.frozen 4; have yf5 := hbx.frozen 5; have yf6 := hbx.frozen 6; have ye0 : (wr.setCell ⟨w.heap.size, 0, none⟩ (.int .i64 k1)).cell? ⟨w.heap.size, 0, none⟩ = some (.int .i64 k1) := (hbx.set_ 0 _).cell 0; have ye1 : ((wr.setCell ⟨w.heap.size, 0, none⟩ (.int .i64 k1)).setCell ⟨w.heap.size, 1, none⟩ (.int .u64 a1)).cell? ⟨w.heap.size, 1, none⟩ = some (.int .u64 a1) := ((hbx.set_ 0 _).set_ 1 _).cell 1; have ye2 : (((wr.setCell ⟨w.heap.size, 0, none⟩ (.int .i64 k1)).setCell ⟨w.heap.size, 1, none⟩ (.int .u64 a1)).setCell ⟨w.heap.size, 2, none⟩ (.int .u64 b1)).cell? ⟨w.heap.size, 2, none⟩ = some (.int .u64 b1) := (((hbx.set_ 0 _).set_ 1 _).set_ 2 _).cell 2; have ye3 : ((((wr.setCell ⟨w.heap.size, 0, none⟩ (.int .i64 k1)).setCell ⟨w.heap.size, 1, none⟩ (.int .u64 a1)).setCell ⟨w.heap.size, 2, none⟩ (.int .u64 b1)).setCell ⟨w.heap.size, 3, none⟩ (.int .u64 c1)).cell? ⟨w.heap.size, 3, none⟩ = some (.int .u64 c1) := ((((hbx.set_ 0 _).set_ 1 _).set_ 2 _).set_ 3 _).cell 3; have ye4 : (((((wr.setCell ⟨w.heap.size, 0, none⟩ (.int .i64 k1)).setCell ⟨w.heap.size, 1, none⟩ (.int .u64 a1)).setCell ⟨w.heap.size, 2, none⟩ (.int .u64 b1)).setCell ⟨w.heap.size, 3, none⟩ (.int .u64 c1)).setCell ⟨w.heap.size, 4, none⟩ (.int .u64 d1)).cell? ⟨w.heap.size, 4, none⟩ = some (.int .u64 d1) := (((((hbx.set_ 0 _).set_ 1 _).set_ 2 _).set_ 3 _).set_ 4 _).cell 4; have ye5 : ((((((wr.setCell ⟨w.heap.size, 0, none⟩ (.int .i64 k1)).setCell ⟨w.heap.size, 1, none⟩ (.int .u64 a1)).setCell ⟨w.heap.size, 2, none⟩ (.int .u64 b1)).setCell ⟨w.heap.size, 3, none⟩ (.int .u64 c1)).setCell ⟨w.heap.size, 4, none⟩ (.int .u64 d1)).setCell ⟨w.heap.size, 5, none⟩ (.string t1)).cell? ⟨w.heap.size, 5, none⟩ = some (.string t1) := ((((((hbx.set_ 0 _).set_ 1 _).set_ 2 _).set_ 3 _).set_ 4 _).set_ 5 _).cell 5; have ye6 : (((((((wr.setCell ⟨w.heap.size, 0, none⟩ (.int .i64 k1)).setCell ⟨w.heap.size, 1, none⟩ (.int .u64 a1)).setCell ⟨w.heap.size, 2, none⟩ (.int .u64 b1)).setCell ⟨w.heap.size, 3, none⟩ (.int .u64 c1)).setCell ⟨w.heap.size, 4, none⟩ (.int .u64 d1)).setCell ⟨w.heap.size, 5, none⟩ (.string t1)).setCell ⟨w.heap.size, 6, none⟩ (.slice A1 n1 cp1)).cell? ⟨w.heap.size, 6, none⟩ = some (.slice A1 n1 cp1) := (((((((hbx.set_ 0 _).set_ 1 _).set_ 2 _).set_ 3 _).set_ 4 _).set_ 5 _).set_ 6 _).cell 6
                  go_wp2
                  exact bodyPost_ret (v := .agg #[.int .i64 k1, .int .u64 a1, .int .u64 b1, .int .u64 c1, .int .u64 d1, .string t1, .slice A1 n1 cp1]) (by simp [results, Tryd.results118, go_sem, ye0, ye1, ye2, ye3, ye4, ye5, ye6]) rfl (HQ.out.1 _ _ [.int .i64 k1, .int .u64 a1, .int .u64 b1, .int .u64 c1, .int .u64 d1, .string t1, .slice A1 n1 cp1] _ HRE.out (grown_set7 HI.out.grown (Nat.le_refl _) _ _ _ _ _ _ _) ((HE.out).res7 (by omega) (by omega) _ _ _ _ _ _ _) ((HI.out.rd).set7 (by omega) _ _ _ _ _ _ _))
end Go.Proofs.YtndhbdbfjkmloaaDoor
