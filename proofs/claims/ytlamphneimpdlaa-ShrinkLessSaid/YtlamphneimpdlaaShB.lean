/- shrink.Check, shrink.test, shrink.Holds. -/
import Derived.Test.YtlamphneimpdlaaShA
namespace Go.Proofs.Ytlamphneimpdlaa
open Go.RowKit

/-- what is to hold of a text -/
noncomputable def predB (k : Int) (g h : List Rl) (t : ByteArray) : Bool := if k = 1 then accG g t else if k = 2 then !accG g t else (accG g t != accG h t)
/-- what shrink.Check says -/
def shChk (k : Int) (g h : List Rl) : Int := if k < 1 ∨ 3 < k then 1 else if (wellG g).2 ≠ 0 then (wellG g).2 else if k = 3 then (wellG h).2 else if 0 < h.length then 3 else 0
theorem shChk_kind {k : Int} {g h : List Rl} (h0 : shChk k g h = 0) : (k = 1 ∨ k = 2 ∨ k = 3) ∧ (wellG g).2 = 0 := by
  unfold shChk at h0
  split at h0
  · cases h0
  · rename_i hk
    split at h0
    · rename_i hw; exact absurd h0 hw
    · rename_i hw; exact ⟨by omega, by simpa using hw⟩
/-- the cells of a predicate -/
abbrev pdV (k : Int) (A : Option Addr) (n cp : Nat) (A' : Option Addr) (n' cp' : Nat) : Array Value := #[.int .i64 k, .slice A n cp, .slice A' n' cp']

set_option maxRecDepth 100000 in
set_option maxHeartbeats 4000000 in
theorem shcheck_any {g h : List Rl} {A A' : Option Addr} {cp cp' : Nat} {row row' : Nat → List Value} {w : World} (hg : GrIs w w.heap.size g A cp row) (hh : GrIs w w.heap.size h A' cp' row') (k : Int) :
    Calls Try.prog 77 #[.agg #[.int .i64 k, .slice A g.length cp, .slice A' h.length cp']] w fun e w' => e = .returned (.int .i64 (shChk k g h)) ∧ Below w.heap.size w w' := by
  have hw1 := fun W (hW : Below w.heap.size w W) => well_any (hg.grow hW)
  have hw2 := fun W (hW : Below w.heap.size w W) => well_any (hh.grow hW)
  unfold WellQ at hw1 hw2
  have HD : Hid (shChk k g h = if k < 1 ∨ 3 < k then 1 else if (wellG g).2 ≠ 0 then (wellG g).2 else if k = 3 then (wellG h).2 else if 0 < h.length then 3 else 0) := by exact rfl
  have H1 := Lib.hid hw1
  have H2 := Lib.hid hw2
  clear hw1 hw2 hg hh
  generalize shChk k g h = z at HD ⊢
  generalize wellG g = r1 at H1 HD
  generalize wellG h = r2 at H2 HD
  obtain ⟨i1, x1⟩ := r1
  obtain ⟨i2, x2⟩ := r2
  simp only at H1 H2 HD
  by_cases hk1 : k < 1
  · have HZ : Hid (z = 1) := HD.out.trans (if_pos (.inl hk1))
    go_enter Try.func77, Try.ntmps77
    go_wp2
    go_ret
    exact ⟨ret_int HZ.out.symm, (by repeat (first | exact Below.refl _ _ | assumption | refine Below.drew ?_ | refine below_drewN ?_ _ | refine Below.alloc ?_ (by first | omega | (simp; omega) | simp) _ | refine Below.setCell ?_ (by first | omega | (simp; omega) | simp) _))⟩
  by_cases hk3 : 3 < k
  · have HZ : Hid (z = 1) := HD.out.trans (if_pos (.inr hk3))
    have hk1' : (k < 1) = False := by simp; omega
    go_enter Try.func77, Try.ntmps77
    go_wp2
    go_ret
    exact ⟨ret_int HZ.out.symm, (by repeat (first | exact Below.refl _ _ | assumption | refine Below.drew ?_ | refine below_drewN ?_ _ | refine Below.alloc ?_ (by first | omega | (simp; omega) | simp) _ | refine Below.setCell ?_ (by first | omega | (simp; omega) | simp) _))⟩
  have hd1 := HD.out.trans (if_neg (by omega))
  by_cases hx1 : x1 = 0
  rotate_left
  · have HZ : Hid (z = x1) := hd1.trans (if_pos hx1)
    have hxb : (x1 != 0) = true := bne_iff_ne.2 hx1
    have hk1' : (k < 1) = False := by simp; omega
    have hk3' : (3 < k) = False := by simp; omega
    clear hx1 hd1
    go_enter Try.func77, Try.ntmps77
    go_wp2_with fail
    refine (H1.out _ (by repeat (first | exact Below.refl _ _ | assumption | refine Below.drew ?_ | refine below_drewN ?_ _ | refine Below.alloc ?_ (by first | omega | (simp; omega) | simp) _ | refine Below.setCell ?_ (by first | omega | (simp; omega) | simp) _))).mono ?_
    rintro e w1 ⟨rfl, hb1⟩
    have hw1 : Below w.heap.size w w1 := Below.trans (by repeat (first | exact Below.refl _ _ | assumption | refine Below.drew ?_ | refine below_drewN ?_ _ | refine Below.alloc ?_ (by first | omega | (simp; omega) | simp) _ | refine Below.setCell ?_ (by first | omega | (simp; omega) | simp) _)) (hb1.mono (by first | omega | (simp; omega) | simp)); have hzw1 := hw1.size; clear hb1
    go_wp2
    go_ret
    exact ⟨ret_int HZ.out.symm, hw1⟩
  subst hx1
  have hd2 := hd1.trans (if_neg (by simp))
  by_cases hk : k = 3
  · subst hk
    have HZ : Hid (z = x2) := hd2.trans (if_pos rfl)
    clear hd1 hd2 hk1 hk3
    go_enter Try.func77, Try.ntmps77
    go_wp2_with fail
    refine (H1.out _ (by repeat (first | exact Below.refl _ _ | assumption | refine Below.drew ?_ | refine below_drewN ?_ _ | refine Below.alloc ?_ (by first | omega | (simp; omega) | simp) _ | refine Below.setCell ?_ (by first | omega | (simp; omega) | simp) _))).mono ?_
    rintro e w1 ⟨rfl, hb1⟩
    have hbx : Blk w1 w.heap.size 81 #[.int .i64 3, .slice A g.length cp, .slice A' h.length cp'] := (blk_at rfl).below hb1 (by first | omega | (simp; omega) | simp)
    have hw1 : Below w.heap.size w w1 := Below.trans (by repeat (first | exact Below.refl _ _ | assumption | refine Below.drew ?_ | refine below_drewN ?_ _ | refine Below.alloc ?_ (by first | omega | (simp; omega) | simp) _ | refine Below.setCell ?_ (by first | omega | (simp; omega) | simp) _)) (hb1.mono (by first | omega | (simp; omega) | simp)); have hzw1 := hw1.size; clear hb1
    have k0 := hbx.cell 0
    have k2 := hbx.cell 2
    simp at k0 k2
    go_wp2_with fail
    refine (H2.out _ (by repeat (first | exact Below.refl _ _ | assumption | refine Below.drew ?_ | refine below_drewN ?_ _ | refine Below.alloc ?_ (by first | omega | (simp; omega) | simp) _ | refine Below.setCell ?_ (by first | omega | (simp; omega) | simp) _))).mono ?_
    rintro e w2 ⟨rfl, hb2⟩
    have hw2 : Below w.heap.size w w2 := hw1.trans (hb2.mono hw1.size)
    go_wp2
    go_ret
    exact ⟨ret_int HZ.out.symm, hw2⟩
  have hd3 := hd2.trans (if_neg hk)
  have hkb : (k == 3) = false := by rw [beq_eq_false_iff_ne]; exact hk
  have hk1' : (k < 1) = False := by simp; omega
  have hk3' : (3 < k) = False := by simp; omega
  by_cases hl : 0 < h.length
  · have HZ : Hid (z = 3) := hd3.trans (if_pos hl)
    have hli : (0 : Int) < (h.length : Int) := by omega
    clear hd1 hd2 hd3 hk hl
    go_enter Try.func77, Try.ntmps77
    go_wp2_with fail
    refine (H1.out _ (by repeat (first | exact Below.refl _ _ | assumption | refine Below.drew ?_ | refine below_drewN ?_ _ | refine Below.alloc ?_ (by first | omega | (simp; omega) | simp) _ | refine Below.setCell ?_ (by first | omega | (simp; omega) | simp) _))).mono ?_
    rintro e w1 ⟨rfl, hb1⟩
    have hbx : Blk w1 w.heap.size 81 #[.int .i64 k, .slice A g.length cp, .slice A' h.length cp'] := (blk_at rfl).below hb1 (by first | omega | (simp; omega) | simp)
    have hw1 : Below w.heap.size w w1 := Below.trans (by repeat (first | exact Below.refl _ _ | assumption | refine Below.drew ?_ | refine below_drewN ?_ _ | refine Below.alloc ?_ (by first | omega | (simp; omega) | simp) _ | refine Below.setCell ?_ (by first | omega | (simp; omega) | simp) _)) (hb1.mono (by first | omega | (simp; omega) | simp)); have hzw1 := hw1.size; clear hb1
    have k0 := hbx.cell 0
    have k2 := hbx.cell 2
    simp at k0 k2
    go_wp2
    go_ret
    exact ⟨ret_int HZ.out.symm, hw1⟩
  · have HZ : Hid (z = 0) := hd3.trans (if_neg hl)
    have hli : (0 < h.length) = False := eq_false hl
    clear hd1 hd2 hd3 hk hl
    go_enter Try.func77, Try.ntmps77
    go_wp2_with fail
    refine (H1.out _ (by repeat (first | exact Below.refl _ _ | assumption | refine Below.drew ?_ | refine below_drewN ?_ _ | refine Below.alloc ?_ (by first | omega | (simp; omega) | simp) _ | refine Below.setCell ?_ (by first | omega | (simp; omega) | simp) _))).mono ?_
    rintro e w1 ⟨rfl, hb1⟩
    have hbx : Blk w1 w.heap.size 81 #[.int .i64 k, .slice A g.length cp, .slice A' h.length cp'] := (blk_at rfl).below hb1 (by first | omega | (simp; omega) | simp)
    have hw1 : Below w.heap.size w w1 := Below.trans (by repeat (first | exact Below.refl _ _ | assumption | refine Below.drew ?_ | refine below_drewN ?_ _ | refine Below.alloc ?_ (by first | omega | (simp; omega) | simp) _ | refine Below.setCell ?_ (by first | omega | (simp; omega) | simp) _)) (hb1.mono (by first | omega | (simp; omega) | simp)); have hzw1 := hw1.size; clear hb1
    have k0 := hbx.cell 0
    have k2 := hbx.cell 2
    simp at k0 k2
    go_wp2
    go_ret
    exact ⟨ret_int HZ.out.symm, hw1⟩

/-- a test that was made: what it is, and that its predicate lies there -/
structure TestV (k : Int) (A : Option Addr) (n cp : Nat) (A' : Option Addr) (n' cp' : Nat) (tb : Nat) (v : Value) (W : World) : Prop where
  box : Blk W tb 81 #[.int .i64 k, .slice A n cp, .slice A' n' cp']
  is : v = .func (.func (if k = 1 then 111 else if k = 2 then 112 else 113)) #[] #[.pointer (some ⟨tb, 0, none⟩)]
theorem TestV.below {k : Int} {A : Option Addr} {n cp : Nat} {A' : Option Addr} {n' cp' tb : Nat} {v : Value} {W W' : World} (h : TestV k A n cp A' n' cp' tb v W) (hb : Below W.heap.size W W') : TestV k A n cp A' n' cp' tb v W' := ⟨h.box.below hb h.box.lt, h.is⟩
set_option maxRecDepth 100000 in
theorem test_any (k : Int) (A : Option Addr) (n cp : Nat) (A' : Option Addr) (n' cp' : Nat) (w : World) :
    Calls Try.prog 75 #[.agg #[.int .i64 k, .slice A n cp, .slice A' n' cp']] w fun e w' => ∃ tb v, e = .returned v ∧ TestV k A n cp A' n' cp' tb v w' ∧ Below w.heap.size w w' := by
  have hbx : Blk (w.alloc (.cells #[.int .i64 k, .slice A n cp, .slice A' n' cp'] 81)) w.heap.size 81 #[.int .i64 k, .slice A n cp, .slice A' n' cp'] := blk_at rfl
  by_cases h1 : k = 1
  · subst h1
    go_enter Try.func75, Try.ntmps75
    go_wp2
    go_ret
    exact ⟨_, _, rfl, ⟨hbx, rfl⟩, (by repeat (first | exact Below.refl _ _ | assumption | refine Below.drew ?_ | refine below_drewN ?_ _ | refine Below.alloc ?_ (by first | omega | (simp; omega) | simp) _ | refine Below.setCell ?_ (by first | omega | (simp; omega) | simp) _))⟩
  by_cases h2 : k = 2
  · subst h2
    go_enter Try.func75, Try.ntmps75
    go_wp2
    go_ret
    exact ⟨_, _, rfl, ⟨hbx, rfl⟩, (by repeat (first | exact Below.refl _ _ | assumption | refine Below.drew ?_ | refine below_drewN ?_ _ | refine Below.alloc ?_ (by first | omega | (simp; omega) | simp) _ | refine Below.setCell ?_ (by first | omega | (simp; omega) | simp) _))⟩
  have b1 : (k == 1) = false := by rw [beq_eq_false_iff_ne]; exact h1
  have b2 : (k == 2) = false := by rw [beq_eq_false_iff_ne]; exact h2
  have HX : Hid ((if k = 1 then 111 else if k = 2 then 112 else 113 : Nat) = 113) := by show _ = _; rw [if_neg h1, if_neg h2]
  clear h1 h2
  go_enter Try.func75, Try.ntmps75
  go_wp2
  go_ret
  exact ⟨_, _, rfl, ⟨hbx, by rw [HX.out]; rfl⟩, (by repeat (first | exact Below.refl _ _ | assumption | refine Below.drew ?_ | refine below_drewN ?_ _ | refine Below.alloc ?_ (by first | omega | (simp; omega) | simp) _ | refine Below.setCell ?_ (by first | omega | (simp; omega) | simp) _))⟩

section
variable {g h : List Rl} {A A' : Option Addr} {cp cp' tb : Nat} {row row' : Nat → List Value} {w : World}
set_option maxRecDepth 100000 in
theorem tc1_any (hg : GrIs w w.heap.size g A cp row) (hwg : ∀ r ∈ g, WfE r.2) {n' : Nat} (hb : Blk w tb 81 #[.int .i64 1, .slice A g.length cp, .slice A' n' cp']) (t : ByteArray) :
    Calls Try.prog 111 #[.string t, .pointer (some ⟨tb, 0, none⟩)] w fun e w' => e = .returned (.bool (predB 1 g h t)) ∧ Below w.heap.size w w' := by
  have hc := fun (W : World) (hW : Below w.heap.size w W) => acc_any (hg.grow hW) hwg t
  have HC := Lib.hid hc
  have HX : Hid (predB 1 g h t = accG g t) := if_pos rfl
  have hbl := hb.lt
  have c1 : w.cell? ⟨tb, 1, none⟩ = some (.slice A g.length cp) := hb.cell 1
  clear hc hg hwg
  generalize accG g t = x at HC HX
  generalize lookG g t = y at HC
  go_enter Try.func111, Try.ntmps111
  go_wp2_with fail
  refine (HC.out _ (by repeat (first | exact Below.refl _ _ | assumption | refine Below.drew ?_ | refine below_drewN ?_ _ | refine Below.alloc ?_ (by first | omega | (simp; omega) | simp) _ | refine Below.setCell ?_ (by first | omega | (simp; omega) | simp) _))).mono ?_
  rintro e w1 ⟨rfl, hb1⟩
  go_wp2
  go_ret
  exact ⟨ret_bool HX.out.symm, hb1⟩
set_option maxRecDepth 100000 in
theorem tc2_any (hg : GrIs w w.heap.size g A cp row) (hwg : ∀ r ∈ g, WfE r.2) {n' : Nat} (hb : Blk w tb 81 #[.int .i64 2, .slice A g.length cp, .slice A' n' cp']) (t : ByteArray) :
    Calls Try.prog 112 #[.string t, .pointer (some ⟨tb, 0, none⟩)] w fun e w' => e = .returned (.bool (predB 2 g h t)) ∧ Below w.heap.size w w' := by
  have hc := fun (W : World) (hW : Below w.heap.size w W) => acc_any (hg.grow hW) hwg t
  have HC := Lib.hid hc
  have HX : Hid (predB 2 g h t = !accG g t) := (if_neg (by decide)).trans (if_pos rfl)
  have hbl := hb.lt
  have c1 : w.cell? ⟨tb, 1, none⟩ = some (.slice A g.length cp) := hb.cell 1
  clear hc hg hwg
  generalize accG g t = x at HC HX
  generalize lookG g t = y at HC
  go_enter Try.func112, Try.ntmps112
  go_wp2_with fail
  refine (HC.out _ (by repeat (first | exact Below.refl _ _ | assumption | refine Below.drew ?_ | refine below_drewN ?_ _ | refine Below.alloc ?_ (by first | omega | (simp; omega) | simp) _ | refine Below.setCell ?_ (by first | omega | (simp; omega) | simp) _))).mono ?_
  rintro e w1 ⟨rfl, hb1⟩
  go_wp2
  go_ret
  exact ⟨ret_bool HX.out.symm, hb1⟩
set_option maxRecDepth 100000 in
theorem tc3_any (hg : GrIs w w.heap.size g A cp row) (hwg : ∀ r ∈ g, WfE r.2) (hh : GrIs w w.heap.size h A' cp' row') (hwh : ∀ r ∈ h, WfE r.2) (hb : Blk w tb 81 #[.int .i64 3, .slice A g.length cp, .slice A' h.length cp']) (t : ByteArray) :
    Calls Try.prog 113 #[.string t, .pointer (some ⟨tb, 0, none⟩)] w fun e w' => e = .returned (.bool (predB 3 g h t)) ∧ Below w.heap.size w w' := by
  have hc := fun (W : World) (hW : Below w.heap.size w W) => acc_any (hg.grow hW) hwg t
  have hc2 := fun (W : World) (hW : Below w.heap.size w W) => acc_any (hh.grow hW) hwh t
  have HC := Lib.hid hc
  have HC2 := Lib.hid hc2
  have HX : Hid (predB 3 g h t = (accG g t != accG h t)) := (if_neg (by decide)).trans (if_neg (by decide))
  have hbl := hb.lt
  have c1 : w.cell? ⟨tb, 1, none⟩ = some (.slice A g.length cp) := hb.cell 1
  clear hc hc2 hg hwg hh hwh
  generalize accG g t = x at HC HX
  generalize lookG g t = y at HC
  generalize accG h t = x2 at HC2 HX
  generalize lookG h t = y2 at HC2
  go_enter Try.func113, Try.ntmps113
  go_wp2_with fail
  refine (HC.out _ (by repeat (first | exact Below.refl _ _ | assumption | refine Below.drew ?_ | refine below_drewN ?_ _ | refine Below.alloc ?_ (by first | omega | (simp; omega) | simp) _ | refine Below.setCell ?_ (by first | omega | (simp; omega) | simp) _))).mono ?_
  rintro e w1 ⟨rfl, hb1⟩
  have c2 : w1.cell? ⟨tb, 2, none⟩ = some (.slice A' h.length cp') := (hb.below hb1 hbl).cell 2
  go_wp2_with fail
  refine (HC2.out _ hb1).mono ?_
  rintro e w2 ⟨rfl, hb2⟩
  have hw2 := hb1.trans (hb2.mono hb1.size)
  go_wp2
  go_ret
  exact ⟨ret_bool HX.out.symm, hw2⟩
end
end Go.Proofs.Ytlamphneimpdlaa
