/- list.List where there is no list to be made. -/
import Derived.Test.YtkmcnekjimobhaaLsA
import Derived.Test.YtkmcnekjimobhaaLsB
namespace Go.Proofs.Ytkmcnekjimobhaa
open Go.RowKit Go.Shelf

def curV (c : Cur) : Value := .agg #[.string c.1, .bool c.2]
/-- what list.List answers -/
def ListQ (g : List Rl) (a : ByteArray) (n : Int) (c : Cur) (b : Int) (w : World) (e : Ending) (w' : World) : Prop := Below w.heap.size w w' ∧
  ((¬ LookOk g a n ∧ ∃ x, x ≠ 0 ∧ x ≠ 11 ∧ e = .returned (.tuple #[.slice none 0 0, curV (⟨#[]⟩, false), .int .i64 x])) ∨
   (LookOk g a n ∧ ¬ (0 ≤ b ∧ b ≤ 1048576 ∧ CurOk a.data.toList n.toNat c) ∧ e = .returned (.tuple #[.slice none 0 0, curV (⟨#[]⟩, false), .int .i64 1])) ∨
   (LookOk g a n ∧ (0 ≤ b ∧ b ≤ 1048576 ∧ CurOk a.data.toList n.toNat c) ∧ ∃ V cp l c', listL (accG g) a.data.toList n.toNat c b.toNat = (l, c') ∧ e = .returned (.tuple #[.slice V l.length cp, curV c', .int .i64 0]) ∧
      w'.ownsRow w.heap.size 9 1 (.slice V l.length cp) l.length (l.map Value.string)))

set_option maxRecDepth 100000 in
set_option maxHeartbeats 4000000 in
theorem list_bad {g : List Rl} {A : Option Addr} {cp : Nat} {row : Nat → List Value} {w : World} (h : GrIs w w.heap.size g A cp row) (a : ByteArray) (n : Int) (ha : a.size ≤ 140737488351232) (hn : I64 n) (c : Cur) (b : Int) (hl : ¬ LookOk g a n) :
    Calls Try.prog 74 #[.agg #[.slice A g.length cp], .string a, .int .i64 n, curV c, .int .i64 b] w (ListQ g a n c b w) := by
  have hlk := fun W (hW : Below w.heap.size w W) => llook_any (h.grow hW) a n ha hn
  have HLK := Lib.hid hlk
  have HX : Hid (∀ w' x, Below w.heap.size w w' → x ≠ 0 → x ≠ 11 → ListQ g a n c b w (.returned (.tuple #[.slice none 0 0, .agg #[.string ⟨#[]⟩, .bool false], .int .i64 x])) w') := fun w' x hb h0 h1 => ⟨hb, .inl ⟨hl, x, h0, h1, rfl⟩⟩
  have H0 := Lib.hid hl
  clear hlk h hl
  generalize ListQ g a n c b w = Q at HX ⊢
  obtain ⟨s, o⟩ := c
  unfold curV
  simp only
  go_enter Try.func74, Try.ntmps74
  go_wp2_with fail
  refine (HLK.out _ (by repeat (first | exact Below.refl _ _ | assumption | refine Below.drew ?_ | refine below_drewN ?_ _ | refine Below.alloc ?_ (by first | omega | (simp; omega) | simp) _ | refine Below.setCell ?_ (by first | omega | (simp; omega) | simp) _))).mono ?_
  rintro e w1 ⟨⟨x, rfl, hx, h11⟩, hb1⟩
  have hw1 : Below w.heap.size w w1 := (((((((Below.refl _ w).alloc (Nat.le_refl _) _).alloc (by first | omega | (simp; omega) | simp) _).alloc (by first | omega | (simp; omega) | simp) _).alloc (by first | omega | (simp; omega) | simp) _).alloc (by first | omega | (simp; omega) | simp) _).alloc (by first | omega | (simp; omega) | simp) _).trans (hb1.mono (by first | omega | (simp; omega) | simp))
  have g0 : Blk w1 w.heap.size 24 #[.slice A g.length cp] := (((((((blk_at rfl).alloc _).alloc _).alloc _).alloc _).alloc _)).below hb1 (by first | omega | (simp; omega) | simp)
  have q0 : Blk w1 (w.heap.size + 1) 148 #[.string s, .bool o] := ((((((blk_at (by simp)).alloc _).alloc _).alloc _).alloc _)).below hb1 (by first | omega | (simp; omega) | simp)
  have n0 : Blk w1 (w.heap.size + 1 + 1) 3 #[.int .i64 b] := (((((blk_at (by simp)).alloc _).alloc _).alloc _)).below hb1 (by first | omega | (simp; omega) | simp)
  have r0 : Blk w1 (w.heap.size + 1 + 1 + 1) 79 #[.slice none 0 0] := (((blk_at (by simp)).alloc _).alloc _).below hb1 (by first | omega | (simp; omega) | simp)
  have r1 : Blk w1 (w.heap.size + 1 + 1 + 1 + 1) 148 #[.string ⟨#[]⟩, .bool false] := ((blk_at (by simp)).alloc _).below hb1 (by first | omega | (simp; omega) | simp)
  have r2 : Blk w1 (w.heap.size + 1 + 1 + 1 + 1 + 1) 28 #[.int .i64 0] := (blk_at (by simp)).below hb1 (by first | omega | (simp; omega) | simp)
  have hz1 := hw1.size
  have k0 := r0.cell 0
  have k1 := r1.cell 0
  have k2 := r1.cell 1
  have k3 := r2.cell 0
  have f0 := r0.frozen 0
  have f1 := r1.frozen 0
  have f2 := r1.frozen 1
  have f3 := r2.frozen 0
  have p0 : w1.cell? ⟨w.heap.size + 1, 0, none⟩ = some (.string s) := q0.cell 0
  have p1 : w1.cell? ⟨w.heap.size + 1, 1, none⟩ = some (.bool o) := q0.cell 1
  have p2 : w1.cell? ⟨w.heap.size + 1 + 1, 0, none⟩ = some (.int .i64 b) := n0.cell 0
  have p3 : w1.cell? ⟨w.heap.size, 0, none⟩ = some (.slice A g.length cp) := g0.cell 0
  simp at k0 k1 k2 k3
  clear hb1
  have hx0 : x ≠ 0 := fun h => H0.out (hx.1 h)
  have hxb : (x != 0) = true := by rw [bne_iff_ne]; exact hx0
  have HQ := fun W (hW : Below w.heap.size w W) => HX.out W x hW hx0 h11
  have HQ' := Lib.hid HQ
  clear HQ hx0 h11 hx
  go_wp2
  refine bodyPost_ret (v := .tuple #[.slice none 0 0, .agg #[.string ⟨#[]⟩, .bool false], .int .i64 x]) (by simp [results, Try.results74, go_sem, k0, k1, k2, k3]) rfl (HQ'.out _ (by repeat (first | exact Below.refl _ _ | assumption | refine Below.drew ?_ | refine below_drewN ?_ _ | refine Below.alloc ?_ (by first | omega | (simp; omega) | simp) _ | refine Below.setCell ?_ (by first | omega | (simp; omega) | simp) _)))
set_option maxRecDepth 100000 in
set_option maxHeartbeats 8000000 in
theorem list_arg {g : List Rl} {A : Option Addr} {cp : Nat} {row : Nat → List Value} {w : World} (h : GrIs w w.heap.size g A cp row) (a : ByteArray) (n : Int) (ha : a.size ≤ 140737488351232) (hn : I64 n) (c : Cur) (hc : c.1.size ≤ 140737488351232) (b : Int) (hl : LookOk g a n) (hbad : ¬ (0 ≤ b ∧ b ≤ 1048576 ∧ CurOk a.data.toList n.toNat c)) :
    Calls Try.prog 74 #[.agg #[.slice A g.length cp], .string a, .int .i64 n, curV c, .int .i64 b] w (ListQ g a n c b w) := by
  have hlk := fun W (hW : Below w.heap.size w W) => llook_any (h.grow hW) a n ha hn
  have HLK := Lib.hid hlk
  have HQ : Hid (∀ w', Below w.heap.size w w' → ListQ g a n c b w (.returned (.tuple #[.slice none 0 0, .agg #[.string ⟨#[]⟩, .bool false], .int .i64 1])) w') := fun w' hb => ⟨hb, .inr (.inl ⟨hl, hbad, rfl⟩)⟩
  have HL := Lib.hid hl
  have hov := fun W => over_any a c.1 W ha hc
  have HOV := Lib.hid hov
  have HB := Lib.hid hbad
  obtain ⟨k, rfl, hk6, -⟩ := hl.2.2
  clear hlk h hl hov hbad
  generalize ListQ g a k c b w = Q at HQ ⊢
  obtain ⟨s, o⟩ := c
  have hls := size_list s
  have HLS := Lib.hid hls
  unfold curV
  simp only [Int.toNat_natCast] at HB HOV hc ⊢
  clear hls
  by_cases b0 : b < 0
  · clear HOV
    go_enter Try.func74, Try.ntmps74
    go_wp2_with fail
    refine (HLK.out _ (by repeat (first | exact Below.refl _ _ | assumption | refine Below.drew ?_ | refine below_drewN ?_ _ | refine Below.alloc ?_ (by first | omega | (simp; omega) | simp) _ | refine Below.setCell ?_ (by first | omega | (simp; omega) | simp) _))).mono ?_
    rintro e w1 ⟨⟨x, rfl, hx, h11⟩, hb1⟩
    have hw1 : Below w.heap.size w w1 := (((((((Below.refl _ w).alloc (Nat.le_refl _) _).alloc (by first | omega | (simp; omega) | simp) _).alloc (by first | omega | (simp; omega) | simp) _).alloc (by first | omega | (simp; omega) | simp) _).alloc (by first | omega | (simp; omega) | simp) _).alloc (by first | omega | (simp; omega) | simp) _).trans (hb1.mono (by first | omega | (simp; omega) | simp))
    have g0 : Blk w1 w.heap.size 24 #[.slice A g.length cp] := (((((((blk_at rfl).alloc _).alloc _).alloc _).alloc _).alloc _)).below hb1 (by first | omega | (simp; omega) | simp)
    have q0 : Blk w1 (w.heap.size + 1) 148 #[.string s, .bool o] := ((((((blk_at (by simp)).alloc _).alloc _).alloc _).alloc _)).below hb1 (by first | omega | (simp; omega) | simp)
    have n0 : Blk w1 (w.heap.size + 1 + 1) 3 #[.int .i64 b] := (((((blk_at (by simp)).alloc _).alloc _).alloc _)).below hb1 (by first | omega | (simp; omega) | simp)
    have r0 : Blk w1 (w.heap.size + 1 + 1 + 1) 79 #[.slice none 0 0] := (((blk_at (by simp)).alloc _).alloc _).below hb1 (by first | omega | (simp; omega) | simp)
    have r1 : Blk w1 (w.heap.size + 1 + 1 + 1 + 1) 148 #[.string ⟨#[]⟩, .bool false] := ((blk_at (by simp)).alloc _).below hb1 (by first | omega | (simp; omega) | simp)
    have r2 : Blk w1 (w.heap.size + 1 + 1 + 1 + 1 + 1) 28 #[.int .i64 0] := (blk_at (by simp)).below hb1 (by first | omega | (simp; omega) | simp)
    have hz1 := hw1.size
    have k0 := r0.cell 0
    have k1 := r1.cell 0
    have k2 := r1.cell 1
    have k3 := r2.cell 0
    have f0 := r0.frozen 0
    have f1 := r1.frozen 0
    have f2 := r1.frozen 1
    have f3 := r2.frozen 0
    have p0 : w1.cell? ⟨w.heap.size + 1, 0, none⟩ = some (.string s) := q0.cell 0
    have p1 : w1.cell? ⟨w.heap.size + 1, 1, none⟩ = some (.bool o) := q0.cell 1
    have p2 : w1.cell? ⟨w.heap.size + 1 + 1, 0, none⟩ = some (.int .i64 b) := n0.cell 0
    have p3 : w1.cell? ⟨w.heap.size, 0, none⟩ = some (.slice A g.length cp) := g0.cell 0
    simp at k0 k1 k2 k3
    clear hb1
    obtain rfl := hx.2 HL.out
    clear hx h11
    go_wp2
    refine bodyPost_ret (v := .tuple #[.slice none 0 0, .agg #[.string ⟨#[]⟩, .bool false], .int .i64 1]) (by simp [results, Try.results74, go_sem, k0, k1, k2, k3]) rfl (HQ.out _ (by repeat (first | exact Below.refl _ _ | assumption | refine Below.drew ?_ | refine below_drewN ?_ _ | refine Below.alloc ?_ (by first | omega | (simp; omega) | simp) _ | refine Below.setCell ?_ (by first | omega | (simp; omega) | simp) _)))
  by_cases b1 : 1048576 < b
  · have b0' : (b < 0) = False := by simp; omega
    clear HOV b0
    go_enter Try.func74, Try.ntmps74
    go_wp2_with fail
    refine (HLK.out _ (by repeat (first | exact Below.refl _ _ | assumption | refine Below.drew ?_ | refine below_drewN ?_ _ | refine Below.alloc ?_ (by first | omega | (simp; omega) | simp) _ | refine Below.setCell ?_ (by first | omega | (simp; omega) | simp) _))).mono ?_
    rintro e w1 ⟨⟨x, rfl, hx, h11⟩, hb1⟩
    have hw1 : Below w.heap.size w w1 := (((((((Below.refl _ w).alloc (Nat.le_refl _) _).alloc (by first | omega | (simp; omega) | simp) _).alloc (by first | omega | (simp; omega) | simp) _).alloc (by first | omega | (simp; omega) | simp) _).alloc (by first | omega | (simp; omega) | simp) _).alloc (by first | omega | (simp; omega) | simp) _).trans (hb1.mono (by first | omega | (simp; omega) | simp))
    have g0 : Blk w1 w.heap.size 24 #[.slice A g.length cp] := (((((((blk_at rfl).alloc _).alloc _).alloc _).alloc _).alloc _)).below hb1 (by first | omega | (simp; omega) | simp)
    have q0 : Blk w1 (w.heap.size + 1) 148 #[.string s, .bool o] := ((((((blk_at (by simp)).alloc _).alloc _).alloc _).alloc _)).below hb1 (by first | omega | (simp; omega) | simp)
    have n0 : Blk w1 (w.heap.size + 1 + 1) 3 #[.int .i64 b] := (((((blk_at (by simp)).alloc _).alloc _).alloc _)).below hb1 (by first | omega | (simp; omega) | simp)
    have r0 : Blk w1 (w.heap.size + 1 + 1 + 1) 79 #[.slice none 0 0] := (((blk_at (by simp)).alloc _).alloc _).below hb1 (by first | omega | (simp; omega) | simp)
    have r1 : Blk w1 (w.heap.size + 1 + 1 + 1 + 1) 148 #[.string ⟨#[]⟩, .bool false] := ((blk_at (by simp)).alloc _).below hb1 (by first | omega | (simp; omega) | simp)
    have r2 : Blk w1 (w.heap.size + 1 + 1 + 1 + 1 + 1) 28 #[.int .i64 0] := (blk_at (by simp)).below hb1 (by first | omega | (simp; omega) | simp)
    have hz1 := hw1.size
    have k0 := r0.cell 0
    have k1 := r1.cell 0
    have k2 := r1.cell 1
    have k3 := r2.cell 0
    have f0 := r0.frozen 0
    have f1 := r1.frozen 0
    have f2 := r1.frozen 1
    have f3 := r2.frozen 0
    have p0 : w1.cell? ⟨w.heap.size + 1, 0, none⟩ = some (.string s) := q0.cell 0
    have p1 : w1.cell? ⟨w.heap.size + 1, 1, none⟩ = some (.bool o) := q0.cell 1
    have p2 : w1.cell? ⟨w.heap.size + 1 + 1, 0, none⟩ = some (.int .i64 b) := n0.cell 0
    have p3 : w1.cell? ⟨w.heap.size, 0, none⟩ = some (.slice A g.length cp) := g0.cell 0
    simp at k0 k1 k2 k3
    clear hb1
    obtain rfl := hx.2 HL.out
    clear hx h11
    go_wp2
    refine bodyPost_ret (v := .tuple #[.slice none 0 0, .agg #[.string ⟨#[]⟩, .bool false], .int .i64 1]) (by simp [results, Try.results74, go_sem, k0, k1, k2, k3]) rfl (HQ.out _ (by repeat (first | exact Below.refl _ _ | assumption | refine Below.drew ?_ | refine below_drewN ?_ _ | refine Below.alloc ?_ (by first | omega | (simp; omega) | simp) _ | refine Below.setCell ?_ (by first | omega | (simp; omega) | simp) _)))
  have b0' : (b < 0) = False := by simp; omega
  have b1' : (1048576 < b) = False := by simp; omega
  by_cases ho : OverOk a.data.toList s.data.toList
  · have HO := Lib.hid ho
    by_cases hs : k < s.size
    · have hs' : (k : Int) < (s.size : Int) := by omega
      clear b0 b1 ho
      go_enter Try.func74, Try.ntmps74
      go_wp2_with fail
      refine (HLK.out _ (by repeat (first | exact Below.refl _ _ | assumption | refine Below.drew ?_ | refine below_drewN ?_ _ | refine Below.alloc ?_ (by first | omega | (simp; omega) | simp) _ | refine Below.setCell ?_ (by first | omega | (simp; omega) | simp) _))).mono ?_
      rintro e w1 ⟨⟨x, rfl, hx, h11⟩, hb1⟩
      have hw1 : Below w.heap.size w w1 := (((((((Below.refl _ w).alloc (Nat.le_refl _) _).alloc (by first | omega | (simp; omega) | simp) _).alloc (by first | omega | (simp; omega) | simp) _).alloc (by first | omega | (simp; omega) | simp) _).alloc (by first | omega | (simp; omega) | simp) _).alloc (by first | omega | (simp; omega) | simp) _).trans (hb1.mono (by first | omega | (simp; omega) | simp))
      have g0 : Blk w1 w.heap.size 24 #[.slice A g.length cp] := (((((((blk_at rfl).alloc _).alloc _).alloc _).alloc _).alloc _)).below hb1 (by first | omega | (simp; omega) | simp)
      have q0 : Blk w1 (w.heap.size + 1) 148 #[.string s, .bool o] := ((((((blk_at (by simp)).alloc _).alloc _).alloc _).alloc _)).below hb1 (by first | omega | (simp; omega) | simp)
      have n0 : Blk w1 (w.heap.size + 1 + 1) 3 #[.int .i64 b] := (((((blk_at (by simp)).alloc _).alloc _).alloc _)).below hb1 (by first | omega | (simp; omega) | simp)
      have r0 : Blk w1 (w.heap.size + 1 + 1 + 1) 79 #[.slice none 0 0] := (((blk_at (by simp)).alloc _).alloc _).below hb1 (by first | omega | (simp; omega) | simp)
      have r1 : Blk w1 (w.heap.size + 1 + 1 + 1 + 1) 148 #[.string ⟨#[]⟩, .bool false] := ((blk_at (by simp)).alloc _).below hb1 (by first | omega | (simp; omega) | simp)
      have r2 : Blk w1 (w.heap.size + 1 + 1 + 1 + 1 + 1) 28 #[.int .i64 0] := (blk_at (by simp)).below hb1 (by first | omega | (simp; omega) | simp)
      have hz1 := hw1.size
      have k0 := r0.cell 0
      have k1 := r1.cell 0
      have k2 := r1.cell 1
      have k3 := r2.cell 0
      have f0 := r0.frozen 0
      have f1 := r1.frozen 0
      have f2 := r1.frozen 1
      have f3 := r2.frozen 0
      have p0 : w1.cell? ⟨w.heap.size + 1, 0, none⟩ = some (.string s) := q0.cell 0
      have p1 : w1.cell? ⟨w.heap.size + 1, 1, none⟩ = some (.bool o) := q0.cell 1
      have p2 : w1.cell? ⟨w.heap.size + 1 + 1, 0, none⟩ = some (.int .i64 b) := n0.cell 0
      have p3 : w1.cell? ⟨w.heap.size, 0, none⟩ = some (.slice A g.length cp) := g0.cell 0
      simp at k0 k1 k2 k3
      clear hb1
      obtain rfl := hx.2 HL.out
      clear hx h11
      go_wp2_with fail
      refine (HOV.out _).mono ?_
      rintro e w2 ⟨⟨y, rfl, hy⟩, d, rfl⟩
      obtain rfl := hy.2 HO.out
      clear hy
      go_wp2
      refine bodyPost_ret (v := .tuple #[.slice none 0 0, .agg #[.string ⟨#[]⟩, .bool false], .int .i64 1]) (by simp [results, Try.results74, go_sem, k0, k1, k2, k3]) rfl (HQ.out _ (by repeat (first | exact Below.refl _ _ | assumption | refine Below.drew ?_ | refine below_drewN ?_ _ | refine Below.alloc ?_ (by first | omega | (simp; omega) | simp) _ | refine Below.setCell ?_ (by first | omega | (simp; omega) | simp) _)))
    · have hs' : ((k : Int) < (s.size : Int)) = False := by simp; omega
      have ho1 : o = true := by
        cases o with
        | true => rfl
        | false => exact absurd ⟨by omega, by omega, ho, by show s.size ≤ k; omega, fun h => by cases h⟩ HB.out
      subst ho1
      have hs0 : s.size ≠ 0 := fun h0 => HB.out ⟨by omega, by omega, ho, by show s.size ≤ k; omega, fun _ => h0⟩
      have he : s.toList.isEmpty = false := by
        rw [ByteArray.toList_eq]
        cases h : s.data.toList with
        | nil => exact absurd (by rw [← HLS.out, h]; rfl) hs0
        | cons _ _ => rfl
      clear b0 b1 ho hs0
      go_enter Try.func74, Try.ntmps74
      go_wp2_with fail
      refine (HLK.out _ (by repeat (first | exact Below.refl _ _ | assumption | refine Below.drew ?_ | refine below_drewN ?_ _ | refine Below.alloc ?_ (by first | omega | (simp; omega) | simp) _ | refine Below.setCell ?_ (by first | omega | (simp; omega) | simp) _))).mono ?_
      rintro e w1 ⟨⟨x, rfl, hx, h11⟩, hb1⟩
      have hw1 : Below w.heap.size w w1 := (((((((Below.refl _ w).alloc (Nat.le_refl _) _).alloc (by first | omega | (simp; omega) | simp) _).alloc (by first | omega | (simp; omega) | simp) _).alloc (by first | omega | (simp; omega) | simp) _).alloc (by first | omega | (simp; omega) | simp) _).alloc (by first | omega | (simp; omega) | simp) _).trans (hb1.mono (by first | omega | (simp; omega) | simp))
      have g0 : Blk w1 w.heap.size 24 #[.slice A g.length cp] := (((((((blk_at rfl).alloc _).alloc _).alloc _).alloc _).alloc _)).below hb1 (by first | omega | (simp; omega) | simp)
      have q0 : Blk w1 (w.heap.size + 1) 148 #[.string s, .bool true] := ((((((blk_at (by simp)).alloc _).alloc _).alloc _).alloc _)).below hb1 (by first | omega | (simp; omega) | simp)
      have n0 : Blk w1 (w.heap.size + 1 + 1) 3 #[.int .i64 b] := (((((blk_at (by simp)).alloc _).alloc _).alloc _)).below hb1 (by first | omega | (simp; omega) | simp)
      have r0 : Blk w1 (w.heap.size + 1 + 1 + 1) 79 #[.slice none 0 0] := (((blk_at (by simp)).alloc _).alloc _).below hb1 (by first | omega | (simp; omega) | simp)
      have r1 : Blk w1 (w.heap.size + 1 + 1 + 1 + 1) 148 #[.string ⟨#[]⟩, .bool false] := ((blk_at (by simp)).alloc _).below hb1 (by first | omega | (simp; omega) | simp)
      have r2 : Blk w1 (w.heap.size + 1 + 1 + 1 + 1 + 1) 28 #[.int .i64 0] := (blk_at (by simp)).below hb1 (by first | omega | (simp; omega) | simp)
      have hz1 := hw1.size
      have k0 := r0.cell 0
      have k1 := r1.cell 0
      have k2 := r1.cell 1
      have k3 := r2.cell 0
      have f0 := r0.frozen 0
      have f1 := r1.frozen 0
      have f2 := r1.frozen 1
      have f3 := r2.frozen 0
      have p0 : w1.cell? ⟨w.heap.size + 1, 0, none⟩ = some (.string s) := q0.cell 0
      have p1 : w1.cell? ⟨w.heap.size + 1, 1, none⟩ = some (.bool true) := q0.cell 1
      have p2 : w1.cell? ⟨w.heap.size + 1 + 1, 0, none⟩ = some (.int .i64 b) := n0.cell 0
      have p3 : w1.cell? ⟨w.heap.size, 0, none⟩ = some (.slice A g.length cp) := g0.cell 0
      simp at k0 k1 k2 k3
      clear hb1
      obtain rfl := hx.2 HL.out
      clear hx h11
      go_wp2_with fail
      refine (HOV.out _).mono ?_
      rintro e w2 ⟨⟨y, rfl, hy⟩, d, rfl⟩
      obtain rfl := hy.2 HO.out
      clear hy
      go_wp2
      refine bodyPost_ret (v := .tuple #[.slice none 0 0, .agg #[.string ⟨#[]⟩, .bool false], .int .i64 1]) (by simp [results, Try.results74, go_sem, k0, k1, k2, k3]) rfl (HQ.out _ (by repeat (first | exact Below.refl _ _ | assumption | refine Below.drew ?_ | refine below_drewN ?_ _ | refine Below.alloc ?_ (by first | omega | (simp; omega) | simp) _ | refine Below.setCell ?_ (by first | omega | (simp; omega) | simp) _)))
  · have HO := Lib.hid ho
    clear b0 b1 ho
    go_enter Try.func74, Try.ntmps74
    go_wp2_with fail
    refine (HLK.out _ (by repeat (first | exact Below.refl _ _ | assumption | refine Below.drew ?_ | refine below_drewN ?_ _ | refine Below.alloc ?_ (by first | omega | (simp; omega) | simp) _ | refine Below.setCell ?_ (by first | omega | (simp; omega) | simp) _))).mono ?_
    rintro e w1 ⟨⟨x, rfl, hx, h11⟩, hb1⟩
    have hw1 : Below w.heap.size w w1 := (((((((Below.refl _ w).alloc (Nat.le_refl _) _).alloc (by first | omega | (simp; omega) | simp) _).alloc (by first | omega | (simp; omega) | simp) _).alloc (by first | omega | (simp; omega) | simp) _).alloc (by first | omega | (simp; omega) | simp) _).alloc (by first | omega | (simp; omega) | simp) _).trans (hb1.mono (by first | omega | (simp; omega) | simp))
    have g0 : Blk w1 w.heap.size 24 #[.slice A g.length cp] := (((((((blk_at rfl).alloc _).alloc _).alloc _).alloc _).alloc _)).below hb1 (by first | omega | (simp; omega) | simp)
    have q0 : Blk w1 (w.heap.size + 1) 148 #[.string s, .bool o] := ((((((blk_at (by simp)).alloc _).alloc _).alloc _).alloc _)).below hb1 (by first | omega | (simp; omega) | simp)
    have n0 : Blk w1 (w.heap.size + 1 + 1) 3 #[.int .i64 b] := (((((blk_at (by simp)).alloc _).alloc _).alloc _)).below hb1 (by first | omega | (simp; omega) | simp)
    have r0 : Blk w1 (w.heap.size + 1 + 1 + 1) 79 #[.slice none 0 0] := (((blk_at (by simp)).alloc _).alloc _).below hb1 (by first | omega | (simp; omega) | simp)
    have r1 : Blk w1 (w.heap.size + 1 + 1 + 1 + 1) 148 #[.string ⟨#[]⟩, .bool false] := ((blk_at (by simp)).alloc _).below hb1 (by first | omega | (simp; omega) | simp)
    have r2 : Blk w1 (w.heap.size + 1 + 1 + 1 + 1 + 1) 28 #[.int .i64 0] := (blk_at (by simp)).below hb1 (by first | omega | (simp; omega) | simp)
    have hz1 := hw1.size
    have k0 := r0.cell 0
    have k1 := r1.cell 0
    have k2 := r1.cell 1
    have k3 := r2.cell 0
    have f0 := r0.frozen 0
    have f1 := r1.frozen 0
    have f2 := r1.frozen 1
    have f3 := r2.frozen 0
    have p0 : w1.cell? ⟨w.heap.size + 1, 0, none⟩ = some (.string s) := q0.cell 0
    have p1 : w1.cell? ⟨w.heap.size + 1, 1, none⟩ = some (.bool o) := q0.cell 1
    have p2 : w1.cell? ⟨w.heap.size + 1 + 1, 0, none⟩ = some (.int .i64 b) := n0.cell 0
    have p3 : w1.cell? ⟨w.heap.size, 0, none⟩ = some (.slice A g.length cp) := g0.cell 0
    simp at k0 k1 k2 k3
    clear hb1
    obtain rfl := hx.2 HL.out
    clear hx h11
    go_wp2_with fail
    refine (HOV.out _).mono ?_
    rintro e w2 ⟨⟨y, rfl, hy⟩, d, rfl⟩
    have hyb : (y != 0) = true := by rw [bne_iff_ne]; exact fun h => HO.out (hy.1 h)
    clear hy
    go_wp2
    refine bodyPost_ret (v := .tuple #[.slice none 0 0, .agg #[.string ⟨#[]⟩, .bool false], .int .i64 1]) (by simp [results, Try.results74, go_sem, k0, k1, k2, k3]) rfl (HQ.out _ (by repeat (first | exact Below.refl _ _ | assumption | refine Below.drew ?_ | refine below_drewN ?_ _ | refine Below.alloc ?_ (by first | omega | (simp; omega) | simp) _ | refine Below.setCell ?_ (by first | omega | (simp; omega) | simp) _)))

set_option maxRecDepth 100000 in
set_option maxHeartbeats 8000000 in
theorem list_over {g : List Rl} {A : Option Addr} {cp : Nat} {row : Nat → List Value} {w : World} (h : GrIs w w.heap.size g A cp row) (a : ByteArray) (n : Int) (ha : a.size ≤ 140737488351232) (hn : I64 n) (c : Cur) (hc : c.1.size ≤ 140737488351232) (b : Int) (hl : LookOk g a n) (hok : 0 ≤ b ∧ b ≤ 1048576 ∧ CurOk a.data.toList n.toNat c) (ho1 : c.2 = true) :
    Calls Try.prog 74 #[.agg #[.slice A g.length cp], .string a, .int .i64 n, curV c, .int .i64 b] w (ListQ g a n c b w) := by
  have hlk := fun W (hW : Below w.heap.size w W) => llook_any (h.grow hW) a n ha hn
  have HLK := Lib.hid hlk
  obtain ⟨s, o⟩ := c
  simp only at hc ho1
  subst ho1
  have HQ : Hid (∀ w', Below w.heap.size w w' → ListQ g a n (s, true) b w (.returned (.tuple #[.slice none 0 0, .agg #[.string s, .bool true], .int .i64 0])) w') := fun w' hb => ⟨hb, .inr (.inr ⟨hl, hok, none, 0, [], (s, true), listL_over rfl, rfl, World.ownsRow_nil _ _ _ _⟩)⟩
  have HL := Lib.hid hl
  have hov := fun W => over_any a s W ha hc
  have HOV := Lib.hid hov
  obtain ⟨k, rfl, hk6, -⟩ := hl.2.2
  obtain ⟨b0, b1, ho, hs, hz⟩ := hok
  have hs0 : s.size = 0 := hz rfl
  have hls := size_list s
  have he : s.toList.isEmpty = true := by
    rw [ByteArray.toList_eq, List.eq_nil_of_length_eq_zero (hls.trans hs0)]
    rfl
  have HO := Lib.hid ho
  have b0' : (b < 0) = False := by simp; omega
  have b1' : (1048576 < b) = False := by simp; omega
  have hs' : ((k : Int) < (s.size : Int)) = False := by simp; omega
  clear hlk h hl hov hs hz ho b0 b1 hls hc hs0
  generalize ListQ g a k (s, true) b w = Q at HQ ⊢
  unfold curV
  simp only
  go_enter Try.func74, Try.ntmps74
  go_wp2_with fail
  refine (HLK.out _ (by repeat (first | exact Below.refl _ _ | assumption | refine Below.drew ?_ | refine below_drewN ?_ _ | refine Below.alloc ?_ (by first | omega | (simp; omega) | simp) _ | refine Below.setCell ?_ (by first | omega | (simp; omega) | simp) _))).mono ?_
  rintro e w1 ⟨⟨x, rfl, hx, h11⟩, hb1⟩
  have hw1 : Below w.heap.size w w1 := (((((((Below.refl _ w).alloc (Nat.le_refl _) _).alloc (by first | omega | (simp; omega) | simp) _).alloc (by first | omega | (simp; omega) | simp) _).alloc (by first | omega | (simp; omega) | simp) _).alloc (by first | omega | (simp; omega) | simp) _).alloc (by first | omega | (simp; omega) | simp) _).trans (hb1.mono (by first | omega | (simp; omega) | simp))
  have g0 : Blk w1 w.heap.size 24 #[.slice A g.length cp] := (((((((blk_at rfl).alloc _).alloc _).alloc _).alloc _).alloc _)).below hb1 (by first | omega | (simp; omega) | simp)
  have q0 : Blk w1 (w.heap.size + 1) 148 #[.string s, .bool true] := ((((((blk_at (by simp)).alloc _).alloc _).alloc _).alloc _)).below hb1 (by first | omega | (simp; omega) | simp)
  have n0 : Blk w1 (w.heap.size + 1 + 1) 3 #[.int .i64 b] := (((((blk_at (by simp)).alloc _).alloc _).alloc _)).below hb1 (by first | omega | (simp; omega) | simp)
  have r0 : Blk w1 (w.heap.size + 1 + 1 + 1) 79 #[.slice none 0 0] := (((blk_at (by simp)).alloc _).alloc _).below hb1 (by first | omega | (simp; omega) | simp)
  have r1 : Blk w1 (w.heap.size + 1 + 1 + 1 + 1) 148 #[.string ⟨#[]⟩, .bool false] := ((blk_at (by simp)).alloc _).below hb1 (by first | omega | (simp; omega) | simp)
  have r2 : Blk w1 (w.heap.size + 1 + 1 + 1 + 1 + 1) 28 #[.int .i64 0] := (blk_at (by simp)).below hb1 (by first | omega | (simp; omega) | simp)
  have hz1 := hw1.size
  have k0 := r0.cell 0
  have k1 := r1.cell 0
  have k2 := r1.cell 1
  have k3 := r2.cell 0
  have f0 := r0.frozen 0
  have f1 := r1.frozen 0
  have f2 := r1.frozen 1
  have f3 := r2.frozen 0
  have p0 : w1.cell? ⟨w.heap.size + 1, 0, none⟩ = some (.string s) := q0.cell 0
  have p1 : w1.cell? ⟨w.heap.size + 1, 1, none⟩ = some (.bool true) := q0.cell 1
  have p2 : w1.cell? ⟨w.heap.size + 1 + 1, 0, none⟩ = some (.int .i64 b) := n0.cell 0
  have p3 : w1.cell? ⟨w.heap.size, 0, none⟩ = some (.slice A g.length cp) := g0.cell 0
  simp at k0 k1 k2 k3
  clear hb1
  obtain rfl := hx.2 HL.out
  clear hx h11
  go_wp2_with fail
  refine (HOV.out _).mono ?_
  rintro e w2 ⟨⟨y, rfl, hy⟩, d, rfl⟩
  obtain rfl := hy.2 HO.out
  clear hy
  go_wp2
  go_region
  all_goals
    go_wp2
    refine bodyPost_ret (v := .tuple #[.slice none 0 0, .agg #[.string s, .bool true], .int .i64 0]) (by simp [results, Try.results74, go_sem, k0, k1, k2, k3]) rfl (HQ.out _ (by repeat (first | exact Below.refl _ _ | assumption | refine Below.drew ?_ | refine below_drewN ?_ _ | refine Below.alloc ?_ (by first | omega | (simp; omega) | simp) _ | refine Below.setCell ?_ (by first | omega | (simp; omega) | simp) _)))
end Go.Proofs.Ytkmcnekjimobhaa
