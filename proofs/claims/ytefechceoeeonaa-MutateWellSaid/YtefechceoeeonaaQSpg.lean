/- A region that draws its order, as in QSpl, with operations that stand behind '&&' or '||': where the guard is decided. -/
import Derived.Test.YtefechceoeeonaaQSpl
namespace Go.Proofs.Ytefechceoeeonaa

section
variable {P : Program} {ops : Array Oper} {md : Region.Mode} {C : World → Prop} {late : Nat → Bool} {Q : Exit → Act → World → Prop}
/-- a read that is wanted is taken first -/
theorem L.rdg {f i : Nat} {o : Oper} {listed : Array Bool} {a : Act} {w : World} (hi : ops.toList[i]? = some o) (hb : (Region.noSelect ops && (Region.ready md ops listed).contains i && Region.free md ops listed i && lateB md ops late i) = true) (hC : C w) (hw : Region.wanted o (yielded ops a.tmps) = true) {v : Value} (hy : ∀ W, C W → readW P o a W v)
    (h : wpAnyL2 P md ops C late Q f (listed.setIfInBounds i true) (a.put o.dst v) w) : wpAnyL2 P md ops C late Q (f + 1) listed a w := by
  rw [Array.getElem?_toList] at hi
  simp only [Bool.and_eq_true] at hb
  exact firstL (late_spec hb.2) hi (Region.noSelect_spec hb.1.1.1) f listed a w hC (Region.free_spec hi hb.1.2) (by simpa using hb.1.1.2) (.inl ⟨hw, hy⟩) h
/-- what is not wanted is left out -/
theorem L.skip {f i : Nat} {o : Oper} {listed : Array Bool} {a : Act} {w : World} (hi : ops.toList[i]? = some o) (hb : (Region.noSelect ops && (Region.ready md ops listed).contains i && Region.free md ops listed i && lateB md ops late i) = true) (hC : C w) (hw : Region.wanted o (yielded ops a.tmps) = false)
    (h : wpAnyL2 P md ops C late Q f (listed.setIfInBounds i true) (a.put o.dst undef) w) : wpAnyL2 P md ops C late Q (f + 1) listed a w := by
  rw [Array.getElem?_toList] at hi
  simp only [Bool.and_eq_true] at hb
  exact firstL (late_spec hb.2) hi (Region.noSelect_spec hb.1.1.1) f listed a w hC (Region.free_spec hi hb.1.2) (by simpa using hb.1.1.2) (.inr ⟨hw, rfl⟩) h
/-- one alone may come up, and is wanted -/
theorem L.oneg {f i : Nat} {o : Oper} {listed : Array Bool} {a : Act} {w : World} (hi : ops.toList[i]? = some o) (hb : decide (Region.ready md ops listed = [i]) = true) (hw : Region.wanted o (yielded ops a.tmps) = true)
    (h : stepT P o a w (fun a' w' => (late i = false → C w') ∧ wpAnyL2 P md ops C late Q f (listed.setIfInBounds i true) a' w')) : wpAnyL2 P md ops C late Q (f + 1) listed a w := by
  rw [Array.getElem?_toList] at hi
  have hb := of_decide_eq_true hb
  refine ⟨fun h => (by rw [hb] at h; cases h), fun j hj => ?_⟩
  rw [hb] at hj
  obtain rfl : j = i := by simpa using hj
  unfold goesI
  simp only [hi]
  rw [if_pos hw]
  exact h
end
end Go.Proofs.Ytefechceoeeonaa
