/- shrink.Holds and shrink.Shrink. -/
import Derived.Test.YtlamphneimpdlaaShB
namespace Go.Proofs.Ytlamphneimpdlaa
open Go.RowKit

/-- what Holds answers -/
noncomputable def holdsV (k : Int) (g h : List Rl) (s : ByteArray) : Bool × Int := if shChk k g h ≠ 0 then (false, shChk k g h) else if 60 < s.size then (false, 2) else (predB k g h s, 0)

section
variable {g h : List Rl} {A A' : Option Addr} {cp cp' : Nat} {row row' : Nat → List Value} {w : World}
set_option maxRecDepth 100000 in
set_option maxHeartbeats 4000000 in
theorem holds_any (hg : GrIs w w.heap.size g A cp row) (hwg : ∀ r ∈ g, WfE r.2) (hh : GrIs w w.heap.size h A' cp' row') (hwh : ∀ r ∈ h, WfE r.2) (k : Int) (s : ByteArray) :
    Calls Try.prog 40 #[.agg #[.int .i64 k, .slice A g.length cp, .slice A' h.length cp'], .string s] w fun e w' => e = .returned (.tuple #[.bool (holdsV k g h s).1, .int .i64 (holdsV k g h s).2]) ∧ Below w.heap.size w w' := by
  have hck := fun W (hW : Below w.heap.size w W) => shcheck_any (hg.grow hW) (hh.grow hW) k
  have hte := fun W => test_any k A g.length cp A' h.length cp' W
  have HCK := Lib.hid hck
  have HTE := Lib.hid hte
  have HG := Lib.hid hg
  have HH := Lib.hid hh
  clear hck hte hg hh
  by_cases h0 : shChk k g h = 0
  rotate_left
  · have hv : holdsV k g h s = (false, shChk k g h) := if_pos h0
    have hxb : (shChk k g h != 0) = true := bne_iff_ne.2 h0
    rw [hv]
    generalize shChk k g h = z at hxb HCK
    clear h0 hv
    go_enter Try.func40, Try.ntmps40
    go_wp2_with fail
    refine (HCK.out _ (by repeat (first | exact Below.refl _ _ | assumption | refine Below.drew ?_ | refine below_drewN ?_ _ | refine Below.alloc ?_ (by first | omega | (simp; omega) | simp) _ | refine Below.setCell ?_ (by first | omega | (simp; omega) | simp) _))).mono ?_
    rintro e w1 ⟨rfl, hb1⟩
    have hw1 : Below w.heap.size w w1 := Below.trans (by repeat (first | exact Below.refl _ _ | assumption | refine Below.drew ?_ | refine below_drewN ?_ _ | refine Below.alloc ?_ (by first | omega | (simp; omega) | simp) _ | refine Below.setCell ?_ (by first | omega | (simp; omega) | simp) _)) (hb1.mono (by first | omega | (simp; omega) | simp)); have hzw1 := hw1.size; clear hb1
    go_wp2
    go_ret2
    exact ⟨rfl, hw1⟩
  by_cases h6 : 60 < s.size
  · have hv : holdsV k g h s = (false, 2) := (if_neg (by simpa using h0)).trans (if_pos h6)
    have h6i : (60 : Int) < (s.size : Int) := by omega
    rw [hv]
    rw [h0] at HCK
    clear h0 hv
    go_enter Try.func40, Try.ntmps40
    go_wp2_with fail
    refine (HCK.out _ (by repeat (first | exact Below.refl _ _ | assumption | refine Below.drew ?_ | refine below_drewN ?_ _ | refine Below.alloc ?_ (by first | omega | (simp; omega) | simp) _ | refine Below.setCell ?_ (by first | omega | (simp; omega) | simp) _))).mono ?_
    rintro e w1 ⟨rfl, hb1⟩
    have hw1 : Below w.heap.size w w1 := Below.trans (by repeat (first | exact Below.refl _ _ | assumption | refine Below.drew ?_ | refine below_drewN ?_ _ | refine Below.alloc ?_ (by first | omega | (simp; omega) | simp) _ | refine Below.setCell ?_ (by first | omega | (simp; omega) | simp) _)) (hb1.mono (by first | omega | (simp; omega) | simp)); have hzw1 := hw1.size; clear hb1
    go_wp2
    go_ret2
    exact ⟨rfl, hw1⟩
  have hv : holdsV k g h s = (predB k g h s, 0) := (if_neg (by simpa using h0)).trans (if_neg h6)
  have h6i : ((60 : Int) < (s.size : Int)) = False := by simp; omega
  have hkk := (shChk_kind h0).1
  rw [hv]
  rw [h0] at HCK
  clear h0 hv
  have hpre : ∀ (tb : Nat) (W : World), Below w.heap.size w W → Blk W tb 81 #[.int .i64 k, .slice A g.length cp, .slice A' h.length cp'] →
      Calls Try.prog (if k = 1 then 111 else if k = 2 then 112 else 113) #[.string s, .pointer (some ⟨tb, 0, none⟩)] W fun e w' => e = .returned (.bool (predB k g h s)) ∧ Below W.heap.size W w' := fun tb W hW hb => by
    rcases hkk with rfl | rfl | rfl
    · exact tc1_any (HG.out.grow hW) hwg hb s
    · exact tc2_any (HG.out.grow hW) hwg hb s
    · exact tc3_any (HG.out.grow hW) hwg (HH.out.grow hW) hwh hb s
  have HPRE := Lib.hid hpre
  clear hpre
  generalize predB k g h s = y at HPRE
  rcases hkk with rfl | rfl | rfl
  all_goals
    simp only [Int.reduceEq, if_true, if_false] at HPRE
    go_enter Try.func40, Try.ntmps40
    go_wp2_with fail
    refine (HCK.out _ (by repeat (first | exact Below.refl _ _ | assumption | refine Below.drew ?_ | refine below_drewN ?_ _ | refine Below.alloc ?_ (by first | omega | (simp; omega) | simp) _ | refine Below.setCell ?_ (by first | omega | (simp; omega) | simp) _))).mono ?_
    rintro e w1 ⟨rfl, hb1⟩
    have hbx : Blk w1 w.heap.size 81 _ := (blk_at rfl).below hb1 (by first | omega | (simp; omega) | simp)
    have hw1 : Below w.heap.size w w1 := Below.trans (by repeat (first | exact Below.refl _ _ | assumption | refine Below.drew ?_ | refine below_drewN ?_ _ | refine Below.alloc ?_ (by first | omega | (simp; omega) | simp) _ | refine Below.setCell ?_ (by first | omega | (simp; omega) | simp) _)) (hb1.mono (by first | omega | (simp; omega) | simp)); have hzw1 := hw1.size; clear hb1
    have k0 := hbx.cell 0
    have k1 := hbx.cell 1
    have k2 := hbx.cell 2
    simp at k0 k1 k2
    go_wp2_with fail
    refine (HTE.out _).mono ?_
    rintro e w2 ⟨tb, v, rfl, hT, hb2⟩
    obtain ⟨hbox, rfl⟩ := hT
    have hw2 : Below w.heap.size w w2 := hw1.trans (hb2.mono hw1.size)
    have HC := Lib.hid (HPRE.out tb w2 hw2 hbox)
    simp only [Int.reduceEq, if_true, if_false] at HC ⊢
    clear hbox
    go_wp2_with fail
    refine HC.out.mono ?_
    rintro e w3 ⟨rfl, hb3⟩
    have hw3 := hw2.trans (hb3.mono hw2.size)
    go_wp2
    go_ret2
    exact ⟨rfl, hw3⟩
end
end Go.Proofs.Ytlamphneimpdlaa
