/- well.Facts, mean.Look. -/
import Derived.Test.YtjmckmjngnmagaaWeH
namespace Go.Proofs.Ytjmckmjngnmagaa
open Go.RowKit

/-- what well.Facts leaves -/
def FactsQ (g : List Rl) (w : World) (e : Ending) (w' : World) : Prop := Below w.heap.size w w' ∧
  ((checkG g ≠ 0 ∧ e = .returned (.tuple #[.slice none 0 0, .int .i64 (checkG g)])) ∨ (checkG g = 0 ∧ ∃ b, e = .returned (.tuple #[.slice (some ⟨b, 0, none⟩) g.length g.length, .int .i64 0]) ∧ FacB w' b (factsG g) ∧ w.heap.size ≤ b))

set_option maxRecDepth 100000 in
theorem wfacts_any {g : List Rl} {A : Option Addr} {cp : Nat} {row : Nat → List Value} {w : World} (h : GrIs w w.heap.size g A cp row) : Calls Try.prog 20 #[.agg #[.slice A g.length cp]] w (FactsQ g w) := by
  have hck := fun W (hW : Below w.heap.size w W) => gcheck_any ((h.on hW).more hW.size)
  have HCK := Lib.hid hck
  have HG := Lib.hid h
  have hbg : Blk (w.alloc (.cells #[.slice A g.length cp] 24)) w.heap.size 24 #[.slice A g.length cp] := blk_at rfl
  clear hck h
  by_cases h0 : checkG g = 0
  · have R := right_of h0
    have h10 := R.ten
    have HR := Lib.hid R.rt
    rw [h0] at HCK
    have H0 := Lib.hid h0
    clear h0 R
    go_enter Try.func20, Try.ntmps20
    go_wp2_with fail
    refine (HCK.out _ (by repeat (first | exact Below.refl _ _ | assumption | refine Below.drew ?_ | refine below_drewN ?_ _ | refine Below.alloc ?_ (by first | omega | (simp; omega) | simp) _ | refine Below.setCell ?_ (by first | omega | (simp; omega) | simp) _))).mono ?_
    rintro e w1 ⟨rfl, hb1⟩
    have hbg1 := hbg.below hb1 hbg.lt
    have hw1 : Below w.heap.size w w1 := ((Below.refl _ w).alloc (Nat.le_refl _) _).trans (hb1.mono (by simp))
    have g1 : w1.cell? ⟨w.heap.size, 0, none⟩ = some (.slice A g.length cp) := hbg1.cell 0
    clear hb1 hbg
    go_wp2_with fail
    refine (facts_any ((HG.out.on hw1).more hw1.size) HR.out h10).mono ?_
    rintro e w2 ⟨fb, rfl, hfb, hfl, hb2⟩
    have hw2 : Below w.heap.size w w2 := hw1.trans (hb2.mono hw1.size)
    have hz := hw1.size
    clear hb2
    go_wp2
    go_ret2
    exact ⟨hw2, .inr ⟨H0.out, fb, rfl, hfb, by omega⟩⟩
  · have hxb : (checkG g != 0) = true := by rw [bne_iff_ne]; exact h0
    have H0 := Lib.hid h0
    clear h0
    generalize hx : checkG g = x at hxb HCK
    have HX := Lib.hid hx
    clear hx
    go_enter Try.func20, Try.ntmps20
    go_wp2_with fail
    refine (HCK.out _ (by repeat (first | exact Below.refl _ _ | assumption | refine Below.drew ?_ | refine below_drewN ?_ _ | refine Below.alloc ?_ (by first | omega | (simp; omega) | simp) _ | refine Below.setCell ?_ (by first | omega | (simp; omega) | simp) _))).mono ?_
    rintro e w1 ⟨rfl, hb1⟩
    have hw1 : Below w.heap.size w w1 := ((Below.refl _ w).alloc (Nat.le_refl _) _).trans (hb1.mono (by simp))
    clear hb1 hbg
    go_wp2
    go_ret2
    exact ⟨hw1, .inl ⟨H0.out, by rw [HX.out]; rfl⟩⟩

/-- what mean.Look says -/
def lookG (g : List Rl) (s : ByteArray) : Int := if (wellG g).2 ≠ 0 then (wellG g).2 else if 60 < s.size then 2 else 0
set_option maxRecDepth 100000 in
theorem mlook_any {g : List Rl} {A : Option Addr} {cp : Nat} {row : Nat → List Value} {w : World} (h : GrIs w w.heap.size g A cp row) (s : ByteArray) :
    Calls Try.prog 50 #[.agg #[.slice A g.length cp], .string s] w fun e w' => e = .returned (.int .i64 (lookG g s)) ∧ Below w.heap.size w w' := by
  have hck := fun W (hW : Below w.heap.size w W) => well_any ((h.on hW).more hW.size)
  have HCK := Lib.hid hck
  have HL : Hid (lookG g s = if (wellG g).2 ≠ 0 then (wellG g).2 else if 60 < s.size then 2 else 0) := rfl
  clear hck h
  unfold WellQ at HCK
  generalize wellG g = r at HCK HL
  obtain ⟨i, x⟩ := r
  by_cases hx : x = 0
  · subst hx
    by_cases h60 : 60 < s.size
    · have HN : Hid (lookG g s = 2) := by show _ = _; rw [HL.out, if_neg (by simp), if_pos h60]
      go_enter Try.func50, Try.ntmps50
      go_wp2_with fail
      refine (HCK.out _ (by repeat (first | exact Below.refl _ _ | assumption | refine Below.drew ?_ | refine below_drewN ?_ _ | refine Below.alloc ?_ (by first | omega | (simp; omega) | simp) _ | refine Below.setCell ?_ (by first | omega | (simp; omega) | simp) _))).mono ?_
      rintro e w1 ⟨rfl, hb1⟩
      have hw1 : Below w.heap.size w w1 := ((Below.refl _ w).alloc (Nat.le_refl _) _).trans (hb1.mono (by simp))
      clear hb1
      go_wp2
      go_ret
      exact ⟨ret_int HN.out.symm, hw1⟩
    · have HN : Hid (lookG g s = 0) := by show _ = _; rw [HL.out, if_neg (by simp), if_neg h60]
      go_enter Try.func50, Try.ntmps50
      go_wp2_with fail
      refine (HCK.out _ (by repeat (first | exact Below.refl _ _ | assumption | refine Below.drew ?_ | refine below_drewN ?_ _ | refine Below.alloc ?_ (by first | omega | (simp; omega) | simp) _ | refine Below.setCell ?_ (by first | omega | (simp; omega) | simp) _))).mono ?_
      rintro e w1 ⟨rfl, hb1⟩
      have hw1 : Below w.heap.size w w1 := ((Below.refl _ w).alloc (Nat.le_refl _) _).trans (hb1.mono (by simp))
      clear hb1
      go_wp2
      go_ret
      exact ⟨ret_int HN.out.symm, hw1⟩
  · have hxb : (x != 0) = true := by rw [bne_iff_ne]; exact hx
    have HN : Hid (lookG g s = x) := by show _ = _; rw [HL.out, if_pos hx]
    clear hx
    go_enter Try.func50, Try.ntmps50
    go_wp2_with fail
    refine (HCK.out _ (by repeat (first | exact Below.refl _ _ | assumption | refine Below.drew ?_ | refine below_drewN ?_ _ | refine Below.alloc ?_ (by first | omega | (simp; omega) | simp) _ | refine Below.setCell ?_ (by first | omega | (simp; omega) | simp) _))).mono ?_
    rintro e w1 ⟨rfl, hb1⟩
    have hw1 : Below w.heap.size w w1 := ((Below.refl _ w).alloc (Nat.le_refl _) _).trans (hb1.mono (by simp))
    clear hb1
    go_wp2
    go_ret
    exact ⟨ret_int HN.out.symm, hw1⟩
end Go.Proofs.Ytjmckmjngnmagaa
