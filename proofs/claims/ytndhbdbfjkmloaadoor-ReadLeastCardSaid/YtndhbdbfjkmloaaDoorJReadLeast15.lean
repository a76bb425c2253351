/- New readers; what a fault is caught to. read.Parse. The text with two bytes made blanks, as it is put together. Plain. What set.First answers. What set.Has and set.Bytes answer. -/
import Derived.Test.YtndhbdbfjkmloaaDoorJReadLeast14
import Derived.Defers
import Derived.Recover
import Derived.Test.YtndhbdbfjkmloaaDoorJReadLeast6
import Derived.Test.YtndhbdbfjkmloaaDoorJReadLeast1
import Derived.Test.YtndhbdbfjkmloaaDoorJReadLeast0
namespace Go.Proofs.YtndhbdbfjkmloaaDoor
open Go.RowKit

theorem below_of_new {w w' : World} {o : Obj} (h : (w.alloc o).grownBy w' (some w.heap.size)) : Below w.heap.size w w' :=
  ⟨h.os, h.tape, h.output, Nat.le_trans (by simp) h.size, fun k hk => (h.block k (by simp; omega) (fun e => by injection e with e; omega)).trans (Below.heap_alloc w o k hk)⟩
/-- what New leaves -/
def NewQr (s : ByteArray) (h : Bool) (w : World) (e : Ending) (w' : World) : Prop :=
  Below w.heap.size w w' ∧ w.heap.size + 1 ≤ w'.heap.size ∧ (((tokL (skipL false s.data.toList)).isBad = true ∧ e = .panicked [{ v := faultV (posL s (skipL false s.data.toList)), recovered := false }]) ∨
    ((tokL (skipL false s.data.toList)).isBad = false ∧ e = .returned (.pointer (some ⟨w.heap.size, 0, none⟩)) ∧ RdAt s h w.heap.size (skipL false s.data.toList) w'))
set_option maxRecDepth 100000 in
set_option maxHeartbeats 4000000 in
theorem newr_any (s : ByteArray) (hs : s.size ≤ 100000) (h : Bool) (w : World) : Calls Tryd.prog 62 #[.string s, .bool h] w (NewQr s h w) := by
  have hb : Blk (w.alloc (.cells #[.string s, .bool h, .int .i64 0, .int .i64 0, .bool false, .int .i64 0, .int .u64 0, .int .u64 0, .int .u64 0, .int .u64 0, .string ⟨#[]⟩, .slice none 0 0, .int .u8 0] 119)) w.heap.size 119 #[.string s, .bool h, .int .i64 0, .int .i64 0, .bool false, .int .i64 0, .int .u64 0, .int .u64 0, .int .u64 0, .int .u64 0, .string ⟨#[]⟩, .slice none 0 0, .int .u8 0] := blk_at rfl
  have hn := fun (Q : Ending → World → Prop) h1 h2 => next_any s hs h w.heap.size 0 (Nat.zero_le _) _ _ _ _ _ _ _ _ _ _ _ _ hb Q (skipL false s.data.toList) (by rw [List.drop_zero]) h1 h2
  have HN := Lib.hid hn
  have HQ : Hid (((tokL (skipL false s.data.toList)).isBad = false → ∀ W', (w.alloc (.cells #[.string s, .bool h, .int .i64 0, .int .i64 0, .bool false, .int .i64 0, .int .u64 0, .int .u64 0, .int .u64 0, .int .u64 0, .string ⟨#[]⟩, .slice none 0 0, .int .u8 0] 119)).grownBy W' (some w.heap.size) → Blk W' w.heap.size 119 (rdC s h (posL s (skipL false s.data.toList)) (tkV (tokL (skipL false s.data.toList)))) → NewQr s h w (.returned (.pointer (some ⟨w.heap.size, 0, none⟩))) W') ∧
      ((tokL (skipL false s.data.toList)).isBad = true → ∀ W', (w.alloc (.cells #[.string s, .bool h, .int .i64 0, .int .i64 0, .bool false, .int .i64 0, .int .u64 0, .int .u64 0, .int .u64 0, .int .u64 0, .string ⟨#[]⟩, .slice none 0 0, .int .u8 0] 119)).grownBy W' (some w.heap.size) → NewQr s h w (.panicked [{ v := faultV (posL s (skipL false s.data.toList)), recovered := false }]) W')) :=
    ⟨fun hg W' hW hB => ⟨below_of_new hW, by have := hW.size; simpa using this, .inr ⟨hg, rfl, RdAt.of_ok (i0 := 0) (Nat.zero_le _) (by rw [List.drop_zero]) hg hB⟩⟩, fun hg W' hW => ⟨below_of_new hW, by have := hW.size; simpa using this, .inl ⟨hg, rfl⟩⟩⟩
  generalize NewQr s h w = Q at HQ ⊢
  clear hn hb
  go_enter Tryd.func62, Tryd.ntmps62
  go_wp2_with fail
  refine HN.out _ ?_ ?_
  · intro hg W' hW hB
    go_wp2
    exact HQ.out.1 hg W' hW hB
  · intro hg W' hW
    go_wp2
    exact ⟨rfl, HQ.out.2 hg W' hW⟩
theorem run_assert_fault (xT : TypeId) (i : Int) (w : World) : (Instr.typeAssert (.iface 168 (.agg #[.int .i64 i])) xT 168 true).run Tryd.prog w = .ok (.tuple #[.agg #[.int .i64 i], .bool true]) w := by
  simp [Instr.typeAssert, run_underlying Tryd.underlying168, go_sem, Result.andThen]
theorem catch_nil (a b : Addr) (w : World) : Calls Tryd.prog 61 #[.nilIface, .pointer (some a), .pointer (some b)] w fun e w' => e = .returned (.tuple #[]) ∧ w' = w := by
  go_enter Tryd.func61, Tryd.ntmps61
  go_wp2
  refine bodyPost_ret (results_none rfl _ _ _) rfl ⟨rfl, rfl⟩
set_option maxRecDepth 100000 in
theorem catch_fault (i : Nat) (pa pb : Nat) (w : World) (va vb : Value) (ta tb : TypeId) (ha : Blk w pa ta #[va]) (hb : Blk w pb tb #[vb]) (hab : pa ≠ pb) :
    Calls Tryd.prog 61 #[faultV i, .pointer (some ⟨pa, 0, none⟩), .pointer (some ⟨pb, 0, none⟩)] w fun e w' => e = .returned (.tuple #[]) ∧ w' = ((w.setCell ⟨pa, 0, none⟩ (.int .i64 (i : Int))).setCell ⟨pb, 0, none⟩ (.int .i64 4)).alloc (.cells #[.int .i64 (i : Int)] 168) := by
  unfold faultV
  have hta := fun W => run_assert_fault 20 (i : Int) W
  have la := ha.lt
  have lb := hb.lt
  have a0 : w.cell? ⟨pa, 0, none⟩ = some va := ha.cell 0
  have b0 : w.cell? ⟨pb, 0, none⟩ = some vb := hb.cell 0
  have fa := ha.frozen 0
  have fb := hb.frozen 0
  clear ha hb
  go_enter Tryd.func61, Tryd.ntmps61
  go_wp2
  go_end0
  exact ⟨rfl, rfl⟩
/-! the closure that catches: of a frame that panics by a fault; of one that returns -/
theorem whole1_fault (i : Nat) (pa pb : Nat) (w : World) (va vb : Value) (ta tb : TypeId) (ha : Blk w pa ta #[va]) (hb : Blk w pb tb #[vb]) (hab : pa ≠ pb) :
    CallsD Tryd.prog 60 #[.pointer (some ⟨pa, 0, none⟩), .pointer (some ⟨pb, 0, none⟩)] (.panicking [{ v := faultV i, recovered := false }]) w fun e u' w' =>
      e = .returned (.tuple #[]) ∧ u' = .panicking [{ v := faultV i, recovered := true }] ∧ w' = ((w.setCell ⟨pa, 0, none⟩ (.int .i64 (i : Int))).setCell ⟨pb, 0, none⟩ (.int .i64 4)).alloc (.cells #[.int .i64 (i : Int)] 168) := by
  refine callsD_of_wpS Tryd.func60 rfl fun c₀ cs hu => ?_
  apply wpS_region
  simp [wpOpsS, go_sem, recoverD, hu, Tryd.ntmps60]
  refine (catch_fault i pa pb w va vb ta tb ha hb hab).mono ?_
  rintro e w1 ⟨rfl, rfl⟩
  simp [bodyPostS, results, Tryd.results60]
theorem whole1_idle (pa pb : Nat) (w : World) :
    CallsD Tryd.prog 60 #[.pointer (some ⟨pa, 0, none⟩), .pointer (some ⟨pb, 0, none⟩)] .returning w fun e u' w' =>
      e = .returned (.tuple #[]) ∧ u' = .returning ∧ w' = w := by
  refine callsD_of_wpS Tryd.func60 rfl fun c₀ cs hu => ?_
  apply wpS_region
  simp [wpOpsS, go_sem, recoverD, hu, Tryd.ntmps60]
  refine (catch_nil ⟨pa, 0, none⟩ ⟨pb, 0, none⟩ w).mono ?_
  rintro e w1 ⟨rfl, rfl⟩
  simp [bodyPostS, results, Tryd.results60]
  cases c₀
  simp_all
/-- what whole leaves -/
def WholeQ (s : ByteArray) (w : World) (e : Ending) (w' : World) : Prop :=
  Below w.heap.size w w' ∧ ∃ x, Whole s.data.toList x ∧ ((∃ ex l k a b c d t A n cp, x = .ok ex l ∧ e = .returned (.tuple #[.agg #[.int .i64 k, .int .u64 a, .int .u64 b, .int .u64 c, .int .u64 d, .string t, .slice A n cp], .int .i64 0, .int .i64 0]) ∧
      ExF (fun b => w.heap.size ≤ b ∧ b < w'.heap.size) w'.heap.size w' ex [.int .i64 k, .int .u64 a, .int .u64 b, .int .u64 c, .int .u64 d, .string t, .slice A n cp]) ∨
    (∃ l k a b c d t A n cp, x = .no l ∧ e = .returned (.tuple #[.agg #[.int .i64 k, .int .u64 a, .int .u64 b, .int .u64 c, .int .u64 d, .string t, .slice A n cp], .int .i64 (posL s l : Int), .int .i64 4])))
theorem blk_set7 {W : World} {k : Nat} {T : TypeId} {v0 v1 v2 v3 v4 v5 v6 : Value} (h : Blk W k T #[v0, v1, v2, v3, v4, v5, v6]) (u0 u1 u2 u3 u4 u5 u6 : Value) :
    Blk (((((((W.setCell ⟨k, 0, none⟩ u0).setCell ⟨k, 1, none⟩ u1).setCell ⟨k, 2, none⟩ u2).setCell ⟨k, 3, none⟩ u3).setCell ⟨k, 4, none⟩ u4).setCell ⟨k, 5, none⟩ u5).setCell ⟨k, 6, none⟩ u6) k T #[u0, u1, u2, u3, u4, u5, u6] := by
  have h0 : Blk (W.setCell ⟨k, 0, none⟩ u0) k T #[u0, v1, v2, v3, v4, v5, v6] := h.set_ 0 _
  have h1 : Blk ((W.setCell ⟨k, 0, none⟩ u0).setCell ⟨k, 1, none⟩ u1) k T #[u0, u1, v2, v3, v4, v5, v6] := h0.set_ 1 _
  have h2 : Blk (((W.setCell ⟨k, 0, none⟩ u0).setCell ⟨k, 1, none⟩ u1).setCell ⟨k, 2, none⟩ u2) k T #[u0, u1, u2, v3, v4, v5, v6] := h1.set_ 2 _
  have h3 : Blk ((((W.setCell ⟨k, 0, none⟩ u0).setCell ⟨k, 1, none⟩ u1).setCell ⟨k, 2, none⟩ u2).setCell ⟨k, 3, none⟩ u3) k T #[u0, u1, u2, u3, v4, v5, v6] := h2.set_ 3 _
  have h4 : Blk (((((W.setCell ⟨k, 0, none⟩ u0).setCell ⟨k, 1, none⟩ u1).setCell ⟨k, 2, none⟩ u2).setCell ⟨k, 3, none⟩ u3).setCell ⟨k, 4, none⟩ u4) k T #[u0, u1, u2, u3, u4, v5, v6] := h3.set_ 4 _
  have h5 : Blk ((((((W.setCell ⟨k, 0, none⟩ u0).setCell ⟨k, 1, none⟩ u1).setCell ⟨k, 2, none⟩ u2).setCell ⟨k, 3, none⟩ u3).setCell ⟨k, 4, none⟩ u4).setCell ⟨k, 5, none⟩ u5) k T #[u0, u1, u2, u3, u4, u5, v6] := h4.set_ 5 _
  exact h5.set_ 6 _
theorem blk_far7 {W : World} {g k : Nat} {T : TypeId} {cs : Array Value} (h : Blk W g T cs) (hne : g ≠ k) (u0 u1 u2 u3 u4 u5 u6 : Value) :
    Blk (((((((W.setCell ⟨k, 0, none⟩ u0).setCell ⟨k, 1, none⟩ u1).setCell ⟨k, 2, none⟩ u2).setCell ⟨k, 3, none⟩ u3).setCell ⟨k, 4, none⟩ u4).setCell ⟨k, 5, none⟩ u5).setCell ⟨k, 6, none⟩ u6) g T cs :=
  ((((((h.far (p := ⟨k, 0, none⟩) hne _).far (p := ⟨k, 1, none⟩) hne _).far (p := ⟨k, 2, none⟩) hne _).far (p := ⟨k, 3, none⟩) hne _).far (p := ⟨k, 4, none⟩) hne _).far (p := ⟨k, 5, none⟩) hne _).far (p := ⟨k, 6, none⟩) hne _
set_option maxRecDepth 100000 in
set_option maxHeartbeats 4000000 in
theorem whole_any (s : ByteArray) (hs : s.size ≤ 100000) (w : World) : Calls Tryd.prog 30 #[.string s] w (WholeQ s w) := by
  have hmf : ∀ (fn : Fn) (first cap : Array Value) (w : World), (Instr.makeFunc fn first cap).run Tryd.prog w = .ok (.func fn first cap) w := fun _ _ _ _ => rfl
  have HQ : Hid ((∀ (ex : Ex) (l : List UInt8) (k a b c d : Int) (t : ByteArray) (A : Option Addr) (n cp : Nat) (W' : World), Whole s.data.toList (.ok ex l) → Below w.heap.size w W' → ExF (fun b => w.heap.size ≤ b ∧ b < W'.heap.size) W'.heap.size W' ex [.int .i64 k, .int .u64 a, .int .u64 b, .int .u64 c, .int .u64 d, .string t, .slice A n cp] →
        WholeQ s w (.returned (.tuple #[.agg #[.int .i64 k, .int .u64 a, .int .u64 b, .int .u64 c, .int .u64 d, .string t, .slice A n cp], .int .i64 0, .int .i64 0])) W') ∧
      (∀ (l : List UInt8) (k a b c d : Int) (t : ByteArray) (A : Option Addr) (n cp : Nat) (W' : World), Whole s.data.toList (.no l) → Below w.heap.size w W' → WholeQ s w (.returned (.tuple #[.agg #[.int .i64 k, .int .u64 a, .int .u64 b, .int .u64 c, .int .u64 d, .string t, .slice A n cp], .int .i64 (posL s l : Int), .int .i64 4])) W')) :=
    ⟨fun ex l k a b c d t A n cp W' h1 h2 h3 => ⟨h2, _, h1, .inl ⟨ex, l, k, a, b, c, d, t, A, n, cp, rfl, rfl, h3⟩⟩, fun l k a b c d t A n cp W' h1 h2 => ⟨h2, _, h1, .inr ⟨l, k, a, b, c, d, t, A, n, cp, rfl, rfl⟩⟩⟩
  generalize WholeQ s w = Q at HQ ⊢
  obtain ⟨R, ⟨f, hf⟩, _⟩ := rd_ends false .alt (skipL false s.data.toList)
  have HAL := Lib.hid (fun (rb : Nat) (W : World) (hW : RdAt s false rb (skipL false s.data.toList) W) => (does_all s hs false rb f).alt _ R W hW hf)
  have HRD : Hid (Rd false .alt (skipL false s.data.toList) R) := ⟨f, hf⟩
  clear hf
  go_enter_defers Tryd.func30, Tryd.ntmps30
  go_wp2_with fail
  have hz3 : (((w.alloc (.cells #[.int .i64 0, .int .u64 0, .int .u64 0, .int .u64 0, .int .u64 0, .string ⟨#[]⟩, .slice none 0 0] 27)).alloc (.cells #[.int .i64 0] 3)).alloc (.cells #[.int .i64 0] 28)).heap.size = w.heap.size + 1 + 1 + 1 := by simp
  have b1 : Blk (((w.alloc (.cells #[.int .i64 0, .int .u64 0, .int .u64 0, .int .u64 0, .int .u64 0, .string ⟨#[]⟩, .slice none 0 0] 27)).alloc (.cells #[.int .i64 0] 3)).alloc (.cells #[.int .i64 0] 28)) w.heap.size 27 #[.int .i64 0, .int .u64 0, .int .u64 0, .int .u64 0, .int .u64 0, .string ⟨#[]⟩, .slice none 0 0] := ((blk_at rfl).alloc _).alloc _
  have b2 : Blk (((w.alloc (.cells #[.int .i64 0, .int .u64 0, .int .u64 0, .int .u64 0, .int .u64 0, .string ⟨#[]⟩, .slice none 0 0] 27)).alloc (.cells #[.int .i64 0] 3)).alloc (.cells #[.int .i64 0] 28)) (w.heap.size + 1) 3 #[.int .i64 0] := (blk_at (by simp)).alloc _
  have b3 : Blk (((w.alloc (.cells #[.int .i64 0, .int .u64 0, .int .u64 0, .int .u64 0, .int .u64 0, .string ⟨#[]⟩, .slice none 0 0] 27)).alloc (.cells #[.int .i64 0] 3)).alloc (.cells #[.int .i64 0] 28)) (w.heap.size + 1 + 1) 28 #[.int .i64 0] := blk_at (by simp)
  have hb0 : Below w.heap.size w (((w.alloc (.cells #[.int .i64 0, .int .u64 0, .int .u64 0, .int .u64 0, .int .u64 0, .string ⟨#[]⟩, .slice none 0 0] 27)).alloc (.cells #[.int .i64 0] 3)).alloc (.cells #[.int .i64 0] 28)) := (((Below.refl _ _).alloc (Nat.le_refl _) _).alloc (by simp) _).alloc (by simp; omega) _
  refine (newr_any s hs false _).mono ?_
  generalize (((w.alloc (.cells #[.int .i64 0, .int .u64 0, .int .u64 0, .int .u64 0, .int .u64 0, .string ⟨#[]⟩, .slice none 0 0] 27)).alloc (.cells #[.int .i64 0] 3)).alloc (.cells #[.int .i64 0] 28)) = w3 at hz3 b1 b2 b3 hb0 ⊢
  rintro e w4 ⟨hbel, hsz, ⟨hbad, rfl⟩ | ⟨hgood, rfl, hr⟩⟩
  · have d1 := b1.below hbel b1.lt
    have d2 := b2.below hbel b2.lt
    have d3 := b3.below hbel b3.lt
    have hb4 := hb0.trans (hbel.mono (by omega))
    have hW : Whole s.data.toList (.no (skipL false s.data.toList)) := .inl ⟨hbad, rfl⟩
    have HW := Lib.hid hW
    clear b1 b2 b3 hbel hW
    go_wp2
    refine leaves_cons (f := 60) (args := #[.pointer (some ⟨w.heap.size + 1, 0, none⟩), .pointer (some ⟨w.heap.size + 1 + 1, 0, none⟩)]) (by simp) (by simp [go_sem]) ?_
    refine (whole1_fault (posL s (skipL false s.data.toList)) (w.heap.size + 1) (w.heap.size + 1 + 1) w4 _ _ _ _ d2 d3 (by omega)).mono ?_
    rintro e u' w8 ⟨rfl, rfl, hw8⟩
    have c1 : Blk w8 w.heap.size 27 #[.int .i64 0, .int .u64 0, .int .u64 0, .int .u64 0, .int .u64 0, .string ⟨#[]⟩, .slice none 0 0] := by
      rw [hw8]
      exact (((d1).far (show w.heap.size ≠ w.heap.size + 1 by omega) _).far (show w.heap.size ≠ w.heap.size + 1 + 1 by omega) _).alloc _
    have c2 : Blk w8 (w.heap.size + 1) 3 #[.int .i64 ((posL s (skipL false s.data.toList)) : Int)] := by
      rw [hw8]
      exact (((d2).set_ 0 _).far (show w.heap.size + 1 ≠ w.heap.size + 1 + 1 by omega) _).alloc _
    have c3 : Blk w8 (w.heap.size + 1 + 1) 28 #[.int .i64 4] := by
      rw [hw8]
      exact (((d3).far (show w.heap.size + 1 + 1 ≠ w.heap.size + 1 by omega) _).set_ 0 _).alloc _
    have c4 : Below w.heap.size w w8 := by
      rw [hw8]
      exact (((hb4).setCell (show w.heap.size ≤ w.heap.size + 1 by omega) _).setCell (show w.heap.size ≤ w.heap.size + 1 + 1 by omega) _).alloc (by have := (d1).lt; simp [World.setCell]; omega) _
    clear hw8
    have q0 := c1.cell 0
    have q1 := c1.cell 1
    have q2 := c1.cell 2
    have q3 := c1.cell 3
    have q4 := c1.cell 4
    have q5 := c1.cell 5
    have q6 := c1.cell 6
    have q7 := c2.cell 0
    have q8 := c3.cell 0
    clear c1 c2 c3
    simp [Leaves, settle, results, Tryd.results30, go_sem, q0, q1, q2, q3, q4, q5, q6, q7, q8]
    exact HQ.out.2 _ _ _ _ _ _ _ _ _ _ _ HW.out c4
  · have d1 := b1.below hbel b1.lt
    have d2 := b2.below hbel b2.lt
    have d3 := b3.below hbel b3.lt
    have hb4 := hb0.trans (hbel.mono (by omega))
    clear b1 b2 b3 hbel hb0
    rw [hz3] at hr hsz
    have hrb : w.heap.size + 1 + 1 + 1 < w4.heap.size := hr.blk.lt
    go_wp2_with fail
    refine (HAL.out _ w4 hr).mono ?_
    rintro e w5 ⟨hg5, hR5⟩
    have e1 := d1.grown hg5 (fun e => by injection e with e; omega)
    have e2 := d2.grown hg5 (fun e => by injection e with e; omega)
    have e3 := d3.grown hg5 (fun e => by injection e with e; omega)
    have hb5 := hb4.grown hg5 (by omega) (fun k hk => by injection hk with hk; omega)
    have hs5 := hg5.size
    clear d1 d2 d3 hg5 hb4 hr HAL
    cases R with
    | no l1 =>
      simp only at hR5
      subst hR5
      have hW : Whole s.data.toList (.no l1) := .inr ⟨hgood, _, HRD.out, .inl ⟨l1, rfl, rfl⟩⟩
      have HW := Lib.hid hW
      clear hW hgood HRD
      go_wp2
      refine leaves_cons (f := 60) (args := #[.pointer (some ⟨w.heap.size + 1, 0, none⟩), .pointer (some ⟨w.heap.size + 1 + 1, 0, none⟩)]) (by simp) (by simp [go_sem]) ?_
      refine (whole1_fault (posL s l1) (w.heap.size + 1) (w.heap.size + 1 + 1) w5 _ _ _ _ e2 e3 (by omega)).mono ?_
      rintro e u' w8 ⟨rfl, rfl, hw8⟩
      have c1 : Blk w8 w.heap.size 27 #[.int .i64 0, .int .u64 0, .int .u64 0, .int .u64 0, .int .u64 0, .string ⟨#[]⟩, .slice none 0 0] := by
        rw [hw8]
        exact (((e1).far (show w.heap.size ≠ w.heap.size + 1 by omega) _).far (show w.heap.size ≠ w.heap.size + 1 + 1 by omega) _).alloc _
      have c2 : Blk w8 (w.heap.size + 1) 3 #[.int .i64 ((posL s l1) : Int)] := by
        rw [hw8]
        exact (((e2).set_ 0 _).far (show w.heap.size + 1 ≠ w.heap.size + 1 + 1 by omega) _).alloc _
      have c3 : Blk w8 (w.heap.size + 1 + 1) 28 #[.int .i64 4] := by
        rw [hw8]
        exact (((e3).far (show w.heap.size + 1 + 1 ≠ w.heap.size + 1 by omega) _).set_ 0 _).alloc _
      have c4 : Below w.heap.size w w8 := by
        rw [hw8]
        exact (((hb5).setCell (show w.heap.size ≤ w.heap.size + 1 by omega) _).setCell (show w.heap.size ≤ w.heap.size + 1 + 1 by omega) _).alloc (by have := (e1).lt; simp [World.setCell]; omega) _
      clear hw8
      have q0 := c1.cell 0
      have q1 := c1.cell 1
      have q2 := c1.cell 2
      have q3 := c1.cell 3
      have q4 := c1.cell 4
      have q5 := c1.cell 5
      have q6 := c1.cell 6
      have q7 := c2.cell 0
      have q8 := c3.cell 0
      clear c1 c2 c3
      simp [Leaves, settle, results, Tryd.results30, go_sem, q0, q1, q2, q3, q4, q5, q6, q7, q8]
      exact HQ.out.2 _ _ _ _ _ _ _ _ _ _ _ HW.out c4
    | ok x l1 =>
      obtain ⟨⟨cs, rfl, hE⟩, hr5⟩ := hR5
      obtain ⟨k1, a1, b1, c1, d1, t1, A1, n1, cp1, rfl⟩ := Ex.parts _ hE.is
      have hE1 := hE.mono (S' := fun b => w.heap.size + 1 + 1 + 1 ≤ b ∧ b < w5.heap.size) (fun b hb => ⟨by have := hb.1; omega, hb.2⟩) (Nat.le_refl _)
      have x1 := blk_set7 e1 (.int .i64 k1) (.int .u64 a1) (.int .u64 b1) (.int .u64 c1) (.int .u64 d1) (.string t1) (.slice A1 n1 cp1)
      have x2 := blk_far7 (k := w.heap.size) e2 (by omega) (.int .i64 k1) (.int .u64 a1) (.int .u64 b1) (.int .u64 c1) (.int .u64 d1) (.string t1) (.slice A1 n1 cp1)
      have x3 := blk_far7 (k := w.heap.size) e3 (by omega) (.int .i64 k1) (.int .u64 a1) (.int .u64 b1) (.int .u64 c1) (.int .u64 d1) (.string t1) (.slice A1 n1 cp1)
      have hr6 := hr5.set7 (k := w.heap.size) (by omega) (.int .i64 k1) (.int .u64 a1) (.int .u64 b1) (.int .u64 c1) (.int .u64 d1) (.string t1) (.slice A1 n1 cp1)
      have hb6 := below_set7 hb5 (Nat.le_refl w.heap.size) (.int .i64 k1) (.int .u64 a1) (.int .u64 b1) (.int .u64 c1) (.int .u64 d1) (.string t1) (.slice A1 n1 cp1)
      have hE6 := hE1.set7 (k := w.heap.size) (fun hb => by omega) (.int .i64 k1) (.int .u64 a1) (.int .u64 b1) (.int .u64 c1) (.int .u64 d1) (.string t1) (.slice A1 n1 cp1)
      have hz6 := size_set7 (W := w5) (k := w.heap.size) (.int .i64 k1) (.int .u64 a1) (.int .u64 b1) (.int .u64 c1) (.int .u64 d1) (.string t1) (.slice A1 n1 cp1)
      rw [← hz6] at hE6
      have y0 := e1.cell 0
      have y1 := e1.cell 1
      have y2 := e1.cell 2
      have y3 := e1.cell 3
      have y4 := e1.cell 4
      have y5 := e1.cell 5
      have y6 := e1.cell 6
      have f0 := e1.frozen 0
      have f1 := e1.frozen 1
      have f2 := e1.frozen 2
      have f3 := e1.frozen 3
      have f4 := e1.frozen 4
      have f5 := e1.frozen 5
      have f6 := e1.frozen 6
      have HX1 := Lib.hid x1
      have HX2 := Lib.hid x2
      have HX3 := Lib.hid x3
      have HR6 := Lib.hid hr6
      have HB6 := Lib.hid hb6
      have HE6 := Lib.hid hE6
      have hel := e1.lt
      clear x1 x2 x3 hr6 hb6 hE6 hz6 hE hE1 hr5 e1 e2 e3 hb5
      go_upto_region 4 with fail
      generalize (((((((w5.setCell ⟨w.heap.size, 0, none⟩ (.int .i64 k1)).setCell ⟨w.heap.size, 1, none⟩ (.int .u64 a1)).setCell ⟨w.heap.size, 2, none⟩ (.int .u64 b1)).setCell ⟨w.heap.size, 3, none⟩ (.int .u64 c1)).setCell ⟨w.heap.size, 4, none⟩ (.int .u64 d1)).setCell ⟨w.heap.size, 5, none⟩ (.string t1)).setCell ⟨w.heap.size, 6, none⟩ (.slice A1 n1 cp1)) = w6 at HX1 HX2 HX3 HR6 HB6 HE6 ⊢
      clear y0 y1 y2 y3 y4 y5 y6 f0 f1 f2 f3 f4 f5 f6 hel hs5
      go_wp2_with fail
      refine (end_any s false (w.heap.size + 1 + 1 + 1) l1 w6 HR6.out).mono ?_
      rintro e w7 ⟨hw7, ⟨hfin, rfl⟩ | ⟨hnf, rfl⟩⟩
      · subst w7
        have hW : Whole s.data.toList (.ok x l1) := .inr ⟨hgood, _, HRD.out, .inr ⟨x, l1, rfl, .inl ⟨hfin, rfl⟩⟩⟩
        have HW := Lib.hid hW
        have x1 := HX1.out
        have x2 := HX2.out
        have x3 := HX3.out
        have y0 := x1.cell 0
        have y1 := x1.cell 1
        have y2 := x1.cell 2
        have y3 := x1.cell 3
        have y4 := x1.cell 4
        have y5 := x1.cell 5
        have y6 := x1.cell 6
        have f0 := x1.frozen 0
        have f1 := x1.frozen 1
        have f2 := x1.frozen 2
        have f3 := x1.frozen 3
        have f4 := x1.frozen 4
        have f5 := x1.frozen 5
        have f6 := x1.frozen 6
        have y7 := x2.cell 0
        have f7 := x2.frozen 0
        have y8 := x3.cell 0
        have f8 := x3.frozen 0
        clear hW hgood hfin HRD x1 x2 x3
        go_wp2
        have g1 := blk_set7 HX1.out (.int .i64 k1) (.int .u64 a1) (.int .u64 b1) (.int .u64 c1) (.int .u64 d1) (.string t1) (.slice A1 n1 cp1)
        have g2 := blk_far7 (k := w.heap.size) HX2.out (by omega) (.int .i64 k1) (.int .u64 a1) (.int .u64 b1) (.int .u64 c1) (.int .u64 d1) (.string t1) (.slice A1 n1 cp1)
        have g3 := blk_far7 (k := w.heap.size) HX3.out (by omega) (.int .i64 k1) (.int .u64 a1) (.int .u64 b1) (.int .u64 c1) (.int .u64 d1) (.string t1) (.slice A1 n1 cp1)
        have g4 := below_set7 HB6.out (Nat.le_refl w.heap.size) (.int .i64 k1) (.int .u64 a1) (.int .u64 b1) (.int .u64 c1) (.int .u64 d1) (.string t1) (.slice A1 n1 cp1)
        have g5 := HE6.out.set7 (k := w.heap.size) (fun hb => by omega) (.int .i64 k1) (.int .u64 a1) (.int .u64 b1) (.int .u64 c1) (.int .u64 d1) (.string t1) (.slice A1 n1 cp1)
        have g6 := size_set7 (W := w6) (k := w.heap.size) (.int .i64 k1) (.int .u64 a1) (.int .u64 b1) (.int .u64 c1) (.int .u64 d1) (.string t1) (.slice A1 n1 cp1)
        rw [← g6] at g5
        clear y0 y1 y2 y3 y4 y5 y6 f0 f1 f2 f3 f4 f5 f6 y7 f7 y8 f8 HX1 HX2 HX3 HB6 HE6 HR6
        generalize (((((((w6.setCell ⟨w.heap.size, 0, none⟩ (.int .i64 k1)).setCell ⟨w.heap.size, 1, none⟩ (.int .u64 a1)).setCell ⟨w.heap.size, 2, none⟩ (.int .u64 b1)).setCell ⟨w.heap.size, 3, none⟩ (.int .u64 c1)).setCell ⟨w.heap.size, 4, none⟩ (.int .u64 d1)).setCell ⟨w.heap.size, 5, none⟩ (.string t1)).setCell ⟨w.heap.size, 6, none⟩ (.slice A1 n1 cp1)) = w7 at g1 g2 g3 g4 g5 g6 ⊢
        have k1' := (g1.far (p := ⟨w.heap.size + 1, 0, none⟩) (show w.heap.size ≠ w.heap.size + 1 by omega) (.int .i64 0)).far (p := ⟨w.heap.size + 1 + 1, 0, none⟩) (show w.heap.size ≠ w.heap.size + 1 + 1 by omega) (.int .i64 0)
        have k2 : Blk ((w7.setCell ⟨w.heap.size + 1, 0, none⟩ (.int .i64 0)).setCell ⟨w.heap.size + 1 + 1, 0, none⟩ (.int .i64 0)) (w.heap.size + 1) 3 #[.int .i64 0] := (g2.set_ 0 (.int .i64 0)).far (p := ⟨w.heap.size + 1 + 1, 0, none⟩) (show w.heap.size + 1 ≠ w.heap.size + 1 + 1 by omega) (.int .i64 0)
        have k3 : Blk ((w7.setCell ⟨w.heap.size + 1, 0, none⟩ (.int .i64 0)).setCell ⟨w.heap.size + 1 + 1, 0, none⟩ (.int .i64 0)) (w.heap.size + 1 + 1) 28 #[.int .i64 0] := (g3.far (p := ⟨w.heap.size + 1, 0, none⟩) (show w.heap.size + 1 + 1 ≠ w.heap.size + 1 by omega) (.int .i64 0)).set_ 0 (.int .i64 0)
        have k4 := (g4.setCell (p := ⟨w.heap.size + 1, 0, none⟩) (show w.heap.size ≤ w.heap.size + 1 by omega) (.int .i64 0)).setCell (p := ⟨w.heap.size + 1 + 1, 0, none⟩) (show w.heap.size ≤ w.heap.size + 1 + 1 by omega) (.int .i64 0)
        have k5 := (g5.set (k := w.heap.size + 1) (fun hb => by omega) 0 (.int .i64 0)).set (k := w.heap.size + 1 + 1) (fun hb => by omega) 0 (.int .i64 0)
        have hz9 : ((w7.setCell ⟨w.heap.size + 1, 0, none⟩ (.int .i64 0)).setCell ⟨w.heap.size + 1 + 1, 0, none⟩ (.int .i64 0)).heap.size = w7.heap.size := by simp [World.setCell]
        have k6 := k5.mono (S' := fun b => w.heap.size ≤ b ∧ b < w7.heap.size) (hi' := w7.heap.size) (fun b hb => ⟨by omega, by omega⟩) (by omega)
        rw [← hz9] at k6
        clear g1 g2 g3 g4 g5 g6 k5 hz9
        generalize ((w7.setCell ⟨w.heap.size + 1, 0, none⟩ (.int .i64 0)).setCell ⟨w.heap.size + 1 + 1, 0, none⟩ (.int .i64 0)) = w9 at k1' k2 k3 k4 k6 ⊢
        refine leaves_cons (f := 60) (args := #[.pointer (some ⟨w.heap.size + 1, 0, none⟩), .pointer (some ⟨w.heap.size + 1 + 1, 0, none⟩)]) (by simp) (by simp [go_sem]) ?_
        refine (whole1_idle (w.heap.size + 1) (w.heap.size + 1 + 1) w9).mono ?_
        rintro e u' w8 ⟨rfl, rfl, hw8⟩
        subst w8
        have q0 := k1'.cell 0
        have q1 := k1'.cell 1
        have q2 := k1'.cell 2
        have q3 := k1'.cell 3
        have q4 := k1'.cell 4
        have q5 := k1'.cell 5
        have q6 := k1'.cell 6
        have q7 := k2.cell 0
        have q8 := k3.cell 0
        simp [Leaves, settle, results, Tryd.results30, go_sem, q0, q1, q2, q3, q4, q5, q6, q7, q8]
        exact HQ.out.1 _ _ _ _ _ _ _ _ _ _ _ _ HW.out k4 k6
      · subst w7
        have hW : Whole s.data.toList (.no l1) := .inr ⟨hgood, _, HRD.out, .inr ⟨x, l1, rfl, .inr ⟨hnf, rfl⟩⟩⟩
        have HW := Lib.hid hW
        clear hW hgood hnf HRD
        go_wp2
        refine leaves_cons (f := 60) (args := #[.pointer (some ⟨w.heap.size + 1, 0, none⟩), .pointer (some ⟨w.heap.size + 1 + 1, 0, none⟩)]) (by simp) (by simp [go_sem]) ?_
        refine (whole1_fault (posL s l1) (w.heap.size + 1) (w.heap.size + 1 + 1) w6 _ _ _ _ HX2.out HX3.out (by omega)).mono ?_
        rintro e u' w8 ⟨rfl, rfl, hw8⟩
        have c1 : Blk w8 w.heap.size 27 #[.int .i64 k1, .int .u64 a1, .int .u64 b1, .int .u64 c1, .int .u64 d1, .string t1, .slice A1 n1 cp1] := by
          rw [hw8]
          exact (((HX1.out).far (show w.heap.size ≠ w.heap.size + 1 by omega) _).far (show w.heap.size ≠ w.heap.size + 1 + 1 by omega) _).alloc _
        have c2 : Blk w8 (w.heap.size + 1) 3 #[.int .i64 ((posL s l1) : Int)] := by
          rw [hw8]
          exact (((HX2.out).set_ 0 _).far (show w.heap.size + 1 ≠ w.heap.size + 1 + 1 by omega) _).alloc _
        have c3 : Blk w8 (w.heap.size + 1 + 1) 28 #[.int .i64 4] := by
          rw [hw8]
          exact (((HX3.out).far (show w.heap.size + 1 + 1 ≠ w.heap.size + 1 by omega) _).set_ 0 _).alloc _
        have c4 : Below w.heap.size w w8 := by
          rw [hw8]
          exact (((HB6.out).setCell (show w.heap.size ≤ w.heap.size + 1 by omega) _).setCell (show w.heap.size ≤ w.heap.size + 1 + 1 by omega) _).alloc (by have := (HX1.out).lt; simp [World.setCell]; omega) _
        clear hw8
        have q0 := c1.cell 0
        have q1 := c1.cell 1
        have q2 := c1.cell 2
        have q3 := c1.cell 3
        have q4 := c1.cell 4
        have q5 := c1.cell 5
        have q6 := c1.cell 6
        have q7 := c2.cell 0
        have q8 := c3.cell 0
        clear c1 c2 c3
        simp [Leaves, settle, results, Tryd.results30, go_sem, q0, q1, q2, q3, q4, q5, q6, q7, q8]
        exact HQ.out.2 _ _ _ _ _ _ _ _ _ _ _ HW.out c4
end Go.Proofs.YtndhbdbfjkmloaaDoor
namespace Go.Proofs.YtndhbdbfjkmloaaDoor
open Go.RowKit

/-- what Parse answers: an expression that is right, or none and where and why not -/
inductive ParseR (s : List UInt8) : Option Ex → Nat → Int → Prop where
  | large : 2000 < s.length → ParseR s none 0 2
  | syn (l : List UInt8) : s.length ≤ 2000 → Whole s (.no l) → ParseR s none (s.length - l.length) 4
  | bad (e : Ex) (l : List UInt8) : s.length ≤ 2000 → Whole s (.ok e l) → checkE e ≠ 0 → ParseR s none 0 (checkE e)
  | ok (e : Ex) (l : List UInt8) : s.length ≤ 2000 → Whole s (.ok e l) → checkE e = 0 → ParseR s (some e) 0 0
theorem ParseR.uniq {s : List UInt8} {e e' : Option Ex} {a a' : Nat} {x x' : Int} (h : ParseR s e a x) (h' : ParseR s e' a' x') : e = e' ∧ a = a' ∧ x = x' := by
  cases h with
  | large h1 =>
    cases h' with
    | large _ => exact ⟨rfl, rfl, rfl⟩
    | syn _ h2 => omega
    | bad _ _ h2 => omega
    | ok _ _ h2 => omega
  | syn l h1 h2 =>
    cases h' with
    | large h3 => omega
    | syn l' _ h3 => have := h2.uniq h3; injection this with this; rw [this]; exact ⟨rfl, rfl, rfl⟩
    | bad _ _ _ h3 => have := h2.uniq h3; cases this
    | ok _ _ _ h3 => have := h2.uniq h3; cases this
  | bad e l h1 h2 hc =>
    cases h' with
    | large h3 => omega
    | syn l' _ h3 => have := h2.uniq h3; cases this
    | bad _ _ _ h3 => have := h2.uniq h3; injection this with e1 _; rw [e1]; exact ⟨rfl, rfl, rfl⟩
    | ok _ _ _ h3 hc' => have := h2.uniq h3; injection this with e1 _; rw [e1] at hc; exact absurd hc' hc
  | ok e l h1 h2 hc =>
    cases h' with
    | large h3 => omega
    | syn l' _ h3 => have := h2.uniq h3; cases this
    | bad _ _ _ h3 hc' => have := h2.uniq h3; injection this with e1 _; rw [e1] at hc; exact absurd hc hc'
    | ok _ _ _ h3 => have := h2.uniq h3; injection this with e1 _; rw [e1]; exact ⟨rfl, rfl, rfl⟩
def zeroE : Ex := .mk 0 0 0 0 0 ⟨#[]⟩ []
/-- what Parse leaves -/
def ParseQ (s : ByteArray) (w : World) (r : Ending) (w' : World) : Prop :=
  Below w.heap.size w w' ∧ ∃ o p x, ParseR s.data.toList o p x ∧ ∃ k a b c d t ks A cp, (o.getD zeroE) = .mk k a b c d t ks ∧ r = .returned (.tuple #[.agg #[.int .i64 k, .int .u64 a, .int .u64 b, .int .u64 c, .int .u64 d, .string t, .slice A ks.length cp], .int .i64 (p : Int), .int .i64 x]) ∧
    ExF (fun b => w.heap.size ≤ b ∧ b < w'.heap.size) w'.heap.size w' (o.getD zeroE) (exCells k a b c d t A ks.length cp)
set_option maxRecDepth 100000 in
set_option maxHeartbeats 4000000 in
theorem parse_any (s : ByteArray) (w : World) : Calls Tryd.prog 14 #[.string s] w (ParseQ s w) := by
  have hl := size_list s
  have HQN : Hid (∀ (p : Nat) (x : Int) (W' : World), ParseR s.data.toList none p x → Below w.heap.size w W' → ParseQ s w (.returned (.tuple #[.agg #[.int .i64 0, .int .u64 0, .int .u64 0, .int .u64 0, .int .u64 0, .string ⟨#[]⟩, .slice none 0 0], .int .i64 (p : Int), .int .i64 x])) W') :=
    fun p x W' h1 h2 => ⟨h2, none, p, x, h1, 0, 0, 0, 0, 0, ⟨#[]⟩, [], none, 0, rfl, rfl, ExF.leaf _ _ _ 0 0 0 0 0 ⟨#[]⟩ (by decide)⟩
  have HQS : Hid (∀ (e : Ex) (k a b c d : Int) (t : ByteArray) (ks : List Ex) (A : Option Addr) (cp : Nat) (W' : World), e = .mk k a b c d t ks → ParseR s.data.toList (some e) 0 0 → Below w.heap.size w W' → ExF (fun b => w.heap.size ≤ b ∧ b < W'.heap.size) W'.heap.size W' e (exCells k a b c d t A ks.length cp) →
      ParseQ s w (.returned (.tuple #[.agg #[.int .i64 k, .int .u64 a, .int .u64 b, .int .u64 c, .int .u64 d, .string t, .slice A ks.length cp], .int .i64 0, .int .i64 0])) W') :=
    fun e k a b c d t ks A cp W' he h1 h2 h3 => ⟨h2, some e, 0, 0, h1, k, a, b, c, d, t, ks, A, cp, he, rfl, h3⟩
  generalize ParseQ s w = Q at HQN HQS ⊢
  have hz1 : (w.alloc (.cells #[.int .i64 0, .int .u64 0, .int .u64 0, .int .u64 0, .int .u64 0, .string ⟨#[]⟩, .slice none 0 0] 27)).heap.size = w.heap.size + 1 := by simp
  have hbx : Blk (w.alloc (.cells #[.int .i64 0, .int .u64 0, .int .u64 0, .int .u64 0, .int .u64 0, .string ⟨#[]⟩, .slice none 0 0] 27)) w.heap.size 27 #[.int .i64 0, .int .u64 0, .int .u64 0, .int .u64 0, .int .u64 0, .string ⟨#[]⟩, .slice none 0 0] := blk_at rfl
  have hb0 : Below w.heap.size w (w.alloc (.cells #[.int .i64 0, .int .u64 0, .int .u64 0, .int .u64 0, .int .u64 0, .string ⟨#[]⟩, .slice none 0 0] 27)) := (by repeat (first | exact Below.refl _ _ | assumption | refine Below.drew ?_ | refine below_drewN ?_ _ | refine Below.alloc ?_ (by first | omega | (simp; omega) | simp) _ | refine Below.setCell ?_ (by first | omega | (simp; omega) | simp) _))
  by_cases hs : s.size ≤ 2000
  · have HW := Lib.hid (fun W => whole_any s (by omega) W)
    have HS := Lib.hid (show s.data.toList.length ≤ 2000 by rw [hl]; exact hs)
    have hlen := Lib.hid hl
    clear hl
    go_enter Tryd.func14, Tryd.ntmps14
    go_wp2_with fail
    refine (HW.out _).mono ?_
    generalize (w.alloc (.cells #[.int .i64 0, .int .u64 0, .int .u64 0, .int .u64 0, .int .u64 0, .string ⟨#[]⟩, .slice none 0 0] 27)) = wa at hz1 hbx hb0 ⊢
    rintro e w1 ⟨hb1, x, hwh, ⟨ex, l, k, a, b, c, d, t, A, n, cp, rfl, rfl, hE⟩ | ⟨l, k, a, b, c, d, t, A, n, cp, rfl, rfl⟩⟩
    · obtain ⟨k', a', b', c', d', t', ks⟩ := ex
      obtain ⟨_, A', cp', hcs, _⟩ := hE.is.shape
      unfold exCells at hcs
      injection hcs with e1 hcs
      injection hcs with e2 hcs
      injection hcs with e3 hcs
      injection hcs with e4 hcs
      injection hcs with e5 hcs
      injection hcs with e6 hcs
      injection hcs with e7 _
      injection e1 with _ e1
      injection e2 with _ e2
      injection e3 with _ e3
      injection e4 with _ e4
      injection e5 with _ e5
      injection e6 with e6
      injection e7 with e7 e8 e9
      subst e1 e2 e3 e4 e5 e6 e7 e8 e9
      have hb2 := hb0.trans (hb1.mono (by omega))
      have hbx1 := hbx.below hb1 (by omega)
      rw [hz1] at hE
      have hE2 := hE.allocR (.cells #[.int .i64 k, .int .u64 a, .int .u64 b, .int .u64 c, .int .u64 d, .string t, .slice A ks.length cp] 27)
      have hbx2 := hbx1.alloc (.cells #[.int .i64 k, .int .u64 a, .int .u64 b, .int .u64 c, .int .u64 d, .string t, .slice A ks.length cp] 27)
      have hb3 := hb2.alloc hb2.size (.cells #[.int .i64 k, .int .u64 a, .int .u64 b, .int .u64 c, .int .u64 d, .string t, .slice A ks.length cp] 27)
      have hx2 := Blk.new w1 27 #[.int .i64 k, .int .u64 a, .int .u64 b, .int .u64 c, .int .u64 d, .string t, .slice A ks.length cp]
      have hs1 := hb1.size
      rw [hz1] at hs1
      have HWH := Lib.hid hwh
      clear hE hbx1 hbx hb2 hb1 hb0 hz1 hwh
      go_upto_region 6 with fail
      generalize (w1.alloc (.cells #[.int .i64 k, .int .u64 a, .int .u64 b, .int .u64 c, .int .u64 d, .string t, .slice A ks.length cp] 27)) = w2 at hE2 hbx2 hb3 hx2 ⊢
      generalize w1.heap.size = xb at hx2 hs1 ⊢
      have y0 := hx2.cell 0
      have y1 := hx2.cell 1
      have y2 := hx2.cell 2
      have y3 := hx2.cell 3
      have y4 := hx2.cell 4
      have y5 := hx2.cell 5
      have y6 := hx2.cell 6
      have hck := check_expr (.mk k a b c d t ks) _ w2 hE2.is
      have HCK := Lib.hid hck
      clear hck
      unfold exCells at HCK
      by_cases h0 : checkE (.mk k a b c d t ks) = 0
      · rw [h0] at HCK
        have HP : Hid (ParseR s.data.toList (some (.mk k a b c d t ks)) 0 0) := .ok _ l HS.out HWH.out h0
        clear h0 HWH
        have HEX := Lib.hid hE2
        clear hE2
        generalize hex : (Ex.mk k a b c d t ks) = ex at HP HCK HEX
        have HEQ := Lib.hid hex.symm
        clear hex
        go_wp2_with fail
        refine HCK.out.mono ?_
        rintro e w3 ⟨rfl, hb4⟩
        have hx3 := hx2.below hb4 hx2.lt
        have hbx3 := hbx2.below hb4 hbx2.lt
        have hb5 := hb3.trans (hb4.mono hb3.size)
        have HE3 : Hid (ExF (fun b => w.heap.size + 1 ≤ b ∧ b < w3.heap.size) w3.heap.size w3 ex [.int .i64 k, .int .u64 a, .int .u64 b, .int .u64 c, .int .u64 d, .string t, .slice A ks.length cp]) := (HEX.out.keep (W' := w3) fun p hp => hb4.cell hp.2).mono (fun b hb => ⟨hb.1, Nat.lt_of_lt_of_le hb.2 hb4.size⟩) hb4.size
        clear hx2 hbx2 hb3 hb4 y0 y1 y2 y3 y4 y5 y6 HEX HCK
        have y0 := hx3.cell 0
        have y1 := hx3.cell 1
        have y2 := hx3.cell 2
        have y3 := hx3.cell 3
        have y4 := hx3.cell 4
        have y5 := hx3.cell 5
        have y6 := hx3.cell 6
        have hob := hbx3.lt
        have HB5 := Lib.hid hb5
        clear hx3 hb5
        have sz0 := (hbx3).cell 0
        have sz1 := (hbx3).cell 1
        have sz2 := (hbx3).cell 2
        have sz3 := (hbx3).cell 3
        have sz4 := (hbx3).cell 4
        have sz5 := (hbx3).cell 5
        have sz6 := (hbx3).cell 6
        have sf0 := (hbx3).frozen 0
        have sf1 := (hbx3).frozen 1
        have sf2 := (hbx3).frozen 2
        have sf3 := (hbx3).frozen 3
        have sf4 := (hbx3).frozen 4
        have sf5 := (hbx3).frozen 5
        have sf6 := (hbx3).frozen 6
        have hset := blk_set7 hbx3 (.int .i64 k) (.int .u64 a) (.int .u64 b) (.int .u64 c) (.int .u64 d) (.string t) (.slice A ks.length cp)
        have HSET := Lib.hid hset
        clear hset
        go_wp2
        have ze0 := HSET.out.cell 0
        have ze1 := HSET.out.cell 1
        have ze2 := HSET.out.cell 2
        have ze3 := HSET.out.cell 3
        have ze4 := HSET.out.cell 4
        have ze5 := HSET.out.cell 5
        have ze6 := HSET.out.cell 6
        exact bodyPost_ret (v := .tuple #[.agg #[.int .i64 k, .int .u64 a, .int .u64 b, .int .u64 c, .int .u64 d, .string t, .slice A ks.length cp], .int .i64 0, .int .i64 0]) (by simp [results, Tryd.results14, go_sem, ze0, ze1, ze2, ze3, ze4, ze5, ze6]) rfl (HQS.out _ _ _ _ _ _ _ _ _ _ _ HEQ.out HP.out (below_set7 HB5.out (Nat.le_refl _) _ _ _ _ _ _ _) (HE3.out.res7 (by omega) (by omega) _ _ _ _ _ _ _))
      · have HP : Hid (ParseR s.data.toList none 0 (checkE (.mk k a b c d t ks))) := .bad _ l HS.out HWH.out h0
        have hne : (checkE (.mk k a b c d t ks) != 0) = true := by rw [bne_iff_ne]; exact h0
        clear h0 HWH hE2
        generalize checkE (.mk k a b c d t ks) = cx at HP HCK hne
        go_wp2_with fail
        refine HCK.out.mono ?_
        rintro e w3 ⟨rfl, hb4⟩
        have hbx3 := hbx2.below hb4 hbx2.lt
        have hb5 := hb3.trans (hb4.mono hb3.size)
        clear hx2 hbx2 hb3 hb4 y0 y1 y2 y3 y4 y5 y6 HCK
        have hob := hbx3.lt
        have HB5 := Lib.hid hb5
        clear hb5
        have sz0 := (hbx3).cell 0
        have sz1 := (hbx3).cell 1
        have sz2 := (hbx3).cell 2
        have sz3 := (hbx3).cell 3
        have sz4 := (hbx3).cell 4
        have sz5 := (hbx3).cell 5
        have sz6 := (hbx3).cell 6
        have sf0 := (hbx3).frozen 0
        have sf1 := (hbx3).frozen 1
        have sf2 := (hbx3).frozen 2
        have sf3 := (hbx3).frozen 3
        have sf4 := (hbx3).frozen 4
        have sf5 := (hbx3).frozen 5
        have sf6 := (hbx3).frozen 6
        have hset := blk_set7 hbx3 (.int .i64 0) (.int .u64 0) (.int .u64 0) (.int .u64 0) (.int .u64 0) (.string ⟨#[]⟩) (.slice none 0 0)
        have HSET := Lib.hid hset
        clear hset
        go_wp2
        have ze0 := HSET.out.cell 0
        have ze1 := HSET.out.cell 1
        have ze2 := HSET.out.cell 2
        have ze3 := HSET.out.cell 3
        have ze4 := HSET.out.cell 4
        have ze5 := HSET.out.cell 5
        have ze6 := HSET.out.cell 6
        exact bodyPost_ret (v := .tuple #[.agg #[.int .i64 0, .int .u64 0, .int .u64 0, .int .u64 0, .int .u64 0, .string ⟨#[]⟩, .slice none 0 0], .int .i64 0, .int .i64 cx]) (by simp [results, Tryd.results14, go_sem, ze0, ze1, ze2, ze3, ze4, ze5, ze6]) rfl (HQN.out 0 cx _ HP.out (below_set7 HB5.out (Nat.le_refl _) _ _ _ _ _ _ _))
    · have HP : Hid (ParseR s.data.toList none (posL s l) 4) := by
        have := ParseR.syn l HS.out hwh
        rw [hlen.out] at this
        exact this
      have hb2 := hb0.trans (hb1.mono (by omega))
      have hbx1 := hbx.below hb1 (by omega)
      have hbx2 := hbx1.alloc (.cells #[.int .i64 k, .int .u64 a, .int .u64 b, .int .u64 c, .int .u64 d, .string t, .slice A n cp] 27)
      have hb3 := hb2.alloc hb2.size (.cells #[.int .i64 k, .int .u64 a, .int .u64 b, .int .u64 c, .int .u64 d, .string t, .slice A n cp] 27)
      clear hbx hbx1 hb0 hb1 hb2 hwh hz1
      generalize posL s l = pl at HP ⊢
      go_upto_region 4 with fail
      generalize (w1.alloc (.cells #[.int .i64 k, .int .u64 a, .int .u64 b, .int .u64 c, .int .u64 d, .string t, .slice A n cp] 27)) = w2 at hbx2 hb3 ⊢
      have hob := hbx2.lt
      have HB3 := Lib.hid hb3
      clear hb3
      have sz0 := (hbx2).cell 0
      have sz1 := (hbx2).cell 1
      have sz2 := (hbx2).cell 2
      have sz3 := (hbx2).cell 3
      have sz4 := (hbx2).cell 4
      have sz5 := (hbx2).cell 5
      have sz6 := (hbx2).cell 6
      have sf0 := (hbx2).frozen 0
      have sf1 := (hbx2).frozen 1
      have sf2 := (hbx2).frozen 2
      have sf3 := (hbx2).frozen 3
      have sf4 := (hbx2).frozen 4
      have sf5 := (hbx2).frozen 5
      have sf6 := (hbx2).frozen 6
      have hset := blk_set7 hbx2 (.int .i64 0) (.int .u64 0) (.int .u64 0) (.int .u64 0) (.int .u64 0) (.string ⟨#[]⟩) (.slice none 0 0)
      have HSET := Lib.hid hset
      clear hset
      go_wp2
      have ze0 := HSET.out.cell 0
      have ze1 := HSET.out.cell 1
      have ze2 := HSET.out.cell 2
      have ze3 := HSET.out.cell 3
      have ze4 := HSET.out.cell 4
      have ze5 := HSET.out.cell 5
      have ze6 := HSET.out.cell 6
      exact bodyPost_ret (v := .tuple #[.agg #[.int .i64 0, .int .u64 0, .int .u64 0, .int .u64 0, .int .u64 0, .string ⟨#[]⟩, .slice none 0 0], .int .i64 (pl : Int), .int .i64 4]) (by simp [results, Tryd.results14, go_sem, ze0, ze1, ze2, ze3, ze4, ze5, ze6]) rfl (HQN.out pl 4 _ HP.out (below_set7 HB3.out (Nat.le_refl _) _ _ _ _ _ _ _))
  · have HP : Hid (ParseR s.data.toList none 0 2) := .large (by rw [hl]; omega)
    have hgt : (2000 : Int) < (s.size : Int) := by omega
    clear hl hs
    go_enter Tryd.func14, Tryd.ntmps14
    go_upto_region 1 with fail
    generalize (w.alloc (.cells #[.int .i64 0, .int .u64 0, .int .u64 0, .int .u64 0, .int .u64 0, .string ⟨#[]⟩, .slice none 0 0] 27)) = wa at hz1 hbx hb0 ⊢
    have hob := hbx.lt
    have HB0 := Lib.hid hb0
    clear hb0 hz1
    have sz0 := (hbx).cell 0
    have sz1 := (hbx).cell 1
    have sz2 := (hbx).cell 2
    have sz3 := (hbx).cell 3
    have sz4 := (hbx).cell 4
    have sz5 := (hbx).cell 5
    have sz6 := (hbx).cell 6
    have sf0 := (hbx).frozen 0
    have sf1 := (hbx).frozen 1
    have sf2 := (hbx).frozen 2
    have sf3 := (hbx).frozen 3
    have sf4 := (hbx).frozen 4
    have sf5 := (hbx).frozen 5
    have sf6 := (hbx).frozen 6
    have hset := blk_set7 hbx (.int .i64 0) (.int .u64 0) (.int .u64 0) (.int .u64 0) (.int .u64 0) (.string ⟨#[]⟩) (.slice none 0 0)
    have HSET := Lib.hid hset
    clear hset
    go_wp2
    have ze0 := HSET.out.cell 0
    have ze1 := HSET.out.cell 1
    have ze2 := HSET.out.cell 2
    have ze3 := HSET.out.cell 3
    have ze4 := HSET.out.cell 4
    have ze5 := HSET.out.cell 5
    have ze6 := HSET.out.cell 6
    exact bodyPost_ret (v := .tuple #[.agg #[.int .i64 0, .int .u64 0, .int .u64 0, .int .u64 0, .int .u64 0, .string ⟨#[]⟩, .slice none 0 0], .int .i64 0, .int .i64 2]) (by simp [results, Tryd.results14, go_sem, ze0, ze1, ze2, ze3, ze4, ze5, ze6]) rfl (HQN.out 0 2 _ HP.out (below_set7 HB0.out (Nat.le_refl _) _ _ _ _ _ _ _))
end Go.Proofs.YtndhbdbfjkmloaaDoor
namespace Go.Proofs.YtndhbdbfjkmloaaDoor
open Go.RowKit

theorem set_two (l : List UInt8) {i k : Nat} (hik : i < k) (hk : k < l.length) : (l.set i 32).set k 32 = l.take i ++ [32] ++ (l.drop (i + 1)).take (k - (i + 1)) ++ [32] ++ l.drop (k + 1) := by
  have h1 : l.set i 32 = l.take i ++ 32 :: l.drop (i + 1) := List.set_eq_take_append_cons_drop.trans (if_pos (by omega))
  have hl : (l.take i).length = i := by rw [List.length_take]; omega
  obtain ⟨m, rfl⟩ : ∃ m, k = i + 1 + m := ⟨k - (i + 1), by omega⟩
  have hm : m < (l.drop (i + 1)).length := by rw [List.length_drop]; omega
  rw [h1, List.set_append_right _ _ (by omega), hl, show i + 1 + m - i = m + 1 from by omega, List.set_cons_succ, show (l.drop (i + 1)).set m 32 = (l.drop (i + 1)).take m ++ 32 :: (l.drop (i + 1)).drop (m + 1) from List.set_eq_take_append_cons_drop.trans (if_pos hm), List.drop_drop, show i + 1 + m - (i + 1) = m from by omega]
  simp [show i + 1 + (m + 1) = i + 1 + m + 1 from by omega]
theorem ext_listR (s : ByteArray) (i j : Nat) : (s.extract i j).data.toList = (s.data.toList.drop i).take (j - i) := by
  rw [ByteArray.data_extract, Array.toList_extract, List.extract]
theorem cut_text (s : ByteArray) {i k : Nat} (hik : i < k) (hk : k < s.size) : (s.extract 0 i ++ ⟨#[32]⟩ ++ s.extract (i + 1) k ++ ⟨#[32]⟩ ++ s.extract (k + 1) s.size).data.toList = (s.data.toList.set i 32).set k 32 := by
  have hl := size_list s
  rw [app_data, app_data, app_data, app_data, ext_listR, ext_listR, ext_listR, set_two _ hik (by omega), List.drop_zero, Nat.sub_zero, List.take_of_length_le (l := s.data.toList.drop (k + 1)) (by rw [List.length_drop]; omega)]
/-- what the law asks of Parse's answer -/
theorem least_parse {e : Ex} (he : Rtx e) {i k : Nat} (hik : i < k) (h : (txE e)[i]? = some 40) (hk : (txE e)[k]? = some 41) {o : Option Ex} {p : Nat} {x : Int} (hP : ParseR (((txE e).set i 32).set k 32) o p x) : ¬ (x = 0 ∧ o = some e) := by
  rintro ⟨rfl, rfl⟩
  cases hP with
  | ok _ l _ hW _ =>
    obtain rfl := (whole_wf hW).2
    exact least_no he hik h hk hW
end Go.Proofs.YtndhbdbfjkmloaaDoor
namespace Go.Proofs.YtndhbdbfjkmloaaDoor
open Go.RowKit

set_option maxRecDepth 100000 in
theorem first_any (l : List Nat) (hl : Words l) (f : Nat) (hf : f ≤ 256) (w : World) (hT : TabAt w) :
    Calls Tryd.prog 85 #[vals l, .int .i64 f] w fun e w' => ∃ r, e = .returned (.int .i64 r) ∧ FirstIs l f r ∧ Below w.heap.size w w' := by
  have HL := Lib.hid hl
  have hpos := hT.pos
  have HT := Lib.hid hT
  clear hl hT
  unfold vals
  have hblk : ∀ W : World, Hid (∀ k, k < 4 → Blk W w.heap.size 24 #[.int .u64 (l.getD 0 0 : Nat), .int .u64 (l.getD 1 0 : Nat), .int .u64 (l.getD 2 0 : Nat), .int .u64 (l.getD 3 0 : Nat)] → W.cell? ⟨w.heap.size, k, none⟩ = some (.int .u64 (l.getD k 0 : Nat))) := fun W k hk hb => by
    rcases (by omega : k = 0 ∨ k = 1 ∨ k = 2 ∨ k = 3) with rfl | rfl | rfl | rfl
    · exact hb.cell 0
    · exact hb.cell 1
    · exact hb.cell 2
    · exact hb.cell 3
  obtain ⟨q, hq⟩ : ∃ q : Nat, q = f / 64 := ⟨_, rfl⟩
  have hqi : (f : Int) / 64 = (q : Int) := by omega
  have HQ := Lib.hid hq
  clear hq
  have hmx : ∀ ts t w, (Builtin.max_ ts t #[.int .i64 0, .int .i64 (f : Int)]).run Tryd.prog w = .ok (.int .i64 (f : Int)) w := fun ts t w => by
    rw [run_max_int2]
    congr 2
    split <;> omega
  go_enter Tryd.func85, Tryd.ntmps85
  go_wp2
  go_loopw [5] (fun i wr => ∃ k : Nat, q ≤ k ∧ (k ≤ 4 ∨ k = q) ∧ i = .int .i64 k ∧ Hid (∀ j, f ≤ j → j < 64 * k → hasN l j = false) ∧ Below w.heap.size w wr ∧ Blk wr w.heap.size 24 #[.int .u64 (l.getD 0 0 : Nat), .int .u64 (l.getD 1 0 : Nat), .int .u64 (l.getD 2 0 : Nat), .int .u64 (l.getD 3 0 : Nat)]) (fun i _ => 4 - (intOf i).toNat)
  case atStart => exact ⟨q, by omega, by omega, rfl, fun j h1 h2 => by have := HQ.out; omega, (by repeat (first | exact Below.refl _ _ | assumption | refine Below.drew ?_ | refine below_drewN ?_ _ | refine Below.alloc ?_ (by first | omega | (simp; omega) | simp) _ | refine Below.setCell ?_ (by first | omega | (simp; omega) | simp) _)), blk_at rfl⟩
  case round =>
    obtain ⟨i, hqk, hi4, rfl, HG, hbw, hb⟩ := hrel
    by_cases hi : i < 4
    · have hc := (hblk wr).out i hi hb
      have hx := HL.out i
      generalize hxx : l.getD i 0 = x at hc hx
      have HX := Lib.hid hxx
      clear hxx
      have hi0 : (0 : Int) ≤ (i : Int) := by omega
      have hi1 : (i : Int) < 4 := by omega
      cases hiq : ((i : Int) == (q : Int))
      · have hgap : ∀ j, f ≤ j → j < 64 * i + 0 → hasN l j = false := HG.out
        have HI : Hid (q < i) := by
          show q < i
          rcases Nat.lt_or_eq_of_le hqk with h | h
          · exact h
          · subst h; simp at hiq
        cases hx0 : ((x : Int) != 0)
        · have hxz : x = 0 := by simp at hx0; omega
          have HN : Hid (∀ j, f ≤ j → j < 64 * (i + 1) → hasN l j = false) := gap_word HX.out 0 hgap (by simp [hxz])
          clear hxz hgap
          go_wp2
          go_roundw
          case rel => exact ⟨i + 1, by omega, by omega, by go_num, HN, hbw, hb⟩
          case measure => simp [intOf]; omega
        · have hxz : x ≠ 0 := by simp at hx0; omega
          have HN : Hid (FirstIs l f ((64 * i + Lib.ctz 64 x : Nat) : Int)) := by
            have := first_word hi HX.out hx 0 (by omega) (by have := HI.out; have := HQ.out; omega) hgap (by simpa using hxz)
            rw [show x / 2 ^ 0 * 2 ^ 0 = x from by simp] at this
            exact this
          have HC : Hid (Lib.ctz 64 x < 64) := (ctz_is x hxz hx).2.1
          clear hgap
          go_wp2_with fail
          refine (tz_any x hx hxz _ (HT.out.below hbw hpos)).mono ?_
          rintro e w' ⟨rfl, rfl⟩
          have hc64 := HC.out
          generalize Lib.ctz 64 x = c at HN hc64 ⊢
          go_wp2
          go_ret
          exact ⟨_, rfl, by have := HN.out; rw [show ((i : Int) * 64 + (c : Int)) = ((64 * i + c : Nat) : Int) from by omega]; exact this, hbw⟩
      · have hiq' : i = q := by simp at hiq; omega
        subst hiq'
        obtain ⟨k, hk⟩ : ∃ k : Nat, k = f % 64 := ⟨_, rfl⟩
        have hfq := HQ.out
        have hand : bits .and .i64 (f : Int) 63 = (k : Int) := by rw [and63 f (by omega), hk]
        have hk64 : k < 64 := by omega
        have hk0 : (0 : Int) ≤ (k : Int) := by omega
        have HF : Hid (f = 64 * i + k) := by show f = 64 * i + k; omega
        clear hk hfq
        have hcut : IntKind.u64.wrap ((x : Int) / 2 ^ k * 2 ^ k) = ((x / 2 ^ k * 2 ^ k : Nat) : Int) := by
          have hle : x / 2 ^ k * 2 ^ k ≤ x := Nat.div_mul_le_self _ _
          rw [show (x : Int) / 2 ^ k * 2 ^ k = ((x / 2 ^ k * 2 ^ k : Nat) : Int) from by simp, IntKind.wrap_u64]
          omega
        have hle : x / 2 ^ k * 2 ^ k ≤ x := Nat.div_mul_le_self _ _
        have hgap : ∀ j, f ≤ j → j < 64 * i + k → hasN l j = false := fun j h1 h2 => by have := HF.out; omega
        obtain ⟨y, hy⟩ : ∃ y, x / 2 ^ k * 2 ^ k = y := ⟨_, rfl⟩
        rw [hy] at hcut hle
        cases hy0 : ((y : Int) != 0)
        · have hyz : y = 0 := by simp at hy0; omega
          have HN : Hid (∀ j, f ≤ j → j < 64 * (i + 1) → hasN l j = false) := gap_word HX.out k hgap (by rw [hy]; exact hyz)
          clear hyz hgap hy
          go_wp2
          go_roundw
          case rel => exact ⟨i + 1, by omega, by omega, by go_num, HN, hbw, hb⟩
          case measure => simp [intOf]; omega
        · have hyz : y ≠ 0 := by simp at hy0; omega
          have HN : Hid (FirstIs l f ((64 * i + Lib.ctz 64 y : Nat) : Int)) := by
            have := first_word hi HX.out hx k hk64 (by have := HF.out; omega) hgap (by rw [hy]; exact hyz)
            rw [hy] at this
            exact this
          have hy64 : y < 18446744073709551616 := by omega
          have HC : Hid (Lib.ctz 64 y < 64) := (ctz_is y hyz hy64).2.1
          clear hgap hy
          go_wp2_with fail
          refine (tz_any y hy64 hyz _ (HT.out.below hbw hpos)).mono ?_
          rintro e w' ⟨rfl, rfl⟩
          have hc64 := HC.out
          generalize Lib.ctz 64 y = c at HN hc64 ⊢
          go_wp2
          go_ret
          exact ⟨_, rfl, by have := HN.out; rw [show ((i : Int) * 64 + (c : Int)) = ((64 * i + c : Nat) : Int) from by omega]; exact this, hbw⟩
    · go_wp2
      go_ret
      exact ⟨_, rfl, .inr ⟨rfl, fun j h1 h2 => HG.out j h1 (by omega)⟩, hbw⟩
end Go.Proofs.YtndhbdbfjkmloaaDoor
namespace Go.Proofs.YtndhbdbfjkmloaaDoor
open Go.RowKit

end Go.Proofs.YtndhbdbfjkmloaaDoor
