/- A quiet walk of a region that draws its order, behind a structure (so that nothing lays it open): steps told by the guard's own value. -/
import Derived.Test.YtndhbdbfjkmloaaDoorQTail
namespace Go.Proofs.YtndhbdbfjkmloaaDoor

/-- a quiet walk that is still to be done -/
structure QW (P : Program) (ops : Array Oper) (C : World → Prop) (Q : Act → Prop) (l : List Oper) (a : Act) : Prop where
  out : wpQuiet P ops C Q l a
section
variable {P : Program} {ops : Array Oper} {C : World → Prop} {Q : Act → Prop} {o : Oper} {rest : List Oper} {a : Act}
theorem QW.free (hg : o.guard = none) (v : Value) (h1 : ∀ w, C w → o.quietAt P a C w v) (h2 : QW P ops C Q rest (a.put o.dst v)) : QW P ops C Q (o :: rest) a :=
  ⟨wpQuiet_yes (by simp [Region.wanted, hg]) v h1 h2.out⟩
theorem QW.take {j : Nat} {want : Bool} (hg : o.guard = some (j, want)) (hd : ∃ d, (ops[j]?).bind (·.dst) = some d ∧ a.tmps[d]? = some (.bool want)) (v : Value) (h1 : ∀ w, C w → o.quietAt P a C w v) (h2 : QW P ops C Q rest (a.put o.dst v)) : QW P ops C Q (o :: rest) a := by
  obtain ⟨d, hd, hv⟩ := hd
  exact ⟨wpQuiet_yes (by simp [Region.wanted, hg, yielded, hd, hv]) v h1 h2.out⟩
theorem QW.skip {j : Nat} {want : Bool} (hg : o.guard = some (j, want)) (hd : ∃ d u, (ops[j]?).bind (·.dst) = some d ∧ a.tmps[d]? = some u ∧ (u = .bool (!want) ∨ u = undef)) (h2 : QW P ops C Q rest (a.put o.dst undef)) : QW P ops C Q (o :: rest) a := by
  obtain ⟨d, u, hd, hv, hb⟩ := hd
  refine ⟨wpQuiet_no ?_ h2.out⟩
  simp only [Region.wanted, hg, yielded, hd, hv, Option.bind_some]
  rcases hb with rfl | rfl
  · cases want <;> rfl
  · cases want <;> rfl
theorem QW.nil (h : Q a) : QW P ops C Q [] a := ⟨wpQuiet_nil h⟩
/-- the region only reads, and calls what keeps C -/
theorem wp_region_q {id : Nat} {Q : Exit → Act → World → Prop} {w : World} {l : List Oper} (C : World → Prop) (hm : P.follows .mixedOrders = true) (hB : Region.lexB .any l.toArray = true) (hC : C w.drew)
    (h : QW P l.toArray C (fun a' => ∀ w', C w' → Q .normal a' w') l a) : (Code.region id l.toArray true).wp P Q a w :=
  wp_region_quiet (C := C) hm hB hC (by simpa using h.out)
/-- the first n operations do; the others come one by one behind them -/
theorem wp_region_t {id : Nat} {Q : Exit → Act → World → Prop} {w : World} {l : List Oper} (C : World → Prop) (n : Nat) (hm : P.follows .mixedOrders = true) (hB : Region.lexTailB .any l.toArray n = true) (hC : C w.drew)
    (h : QW P l.toArray C (fun a' => ∀ w', C w' → wpList P l.toArray Q (l.drop n) a' w') (l.take n) a) : (Code.region id l.toArray true).wp P Q a w :=
  wp_region_tail C n hm hB hC h.out
end
end Go.Proofs.YtndhbdbfjkmloaaDoor
