/- A region that draws its order, walked in the order of the text: the two steps of such a walk at whatever class of worlds. -/
import Derived.Deep.QuietTactic
namespace Go.Proofs.YtndhbdbfjkmloaaDoor

section
variable {P : Program} {ops : Array Oper} {C : World → Prop} {Q : Act → Prop}
theorem wpQuiet_yes {o : Oper} {rest : List Oper} {a : Act} (hw : Region.wanted o (yielded ops a.tmps) = true) (v : Value) (h1 : ∀ w, C w → o.quietAt P a C w v) (h2 : wpQuiet P ops C Q rest (a.put o.dst v)) : wpQuiet P ops C Q (o :: rest) a := by
  show if Region.wanted o (yielded ops a.tmps) = true then _ else _
  rw [if_pos hw]
  exact ⟨v, h1, h2⟩
theorem wpQuiet_no {o : Oper} {rest : List Oper} {a : Act} (hw : Region.wanted o (yielded ops a.tmps) = false) (h2 : wpQuiet P ops C Q rest (a.put o.dst undef)) : wpQuiet P ops C Q (o :: rest) a := by
  show if Region.wanted o (yielded ops a.tmps) = true then _ else _
  rw [if_neg (by rw [hw]; decide)]
  exact h2
end
end Go.Proofs.YtndhbdbfjkmloaaDoor
