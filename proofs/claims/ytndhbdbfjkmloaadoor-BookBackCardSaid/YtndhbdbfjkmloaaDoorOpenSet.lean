/- How a set that came in is opened: four words of 64 bits. -/
import Derived.Test.YtndhbdbfjkmloaaDoorOpen
import Derived.Test.YtndhbdbfjkmloaaDoorSetLaw
namespace Go.Proofs.YtndhbdbfjkmloaaDoor
open Go.ChangeShapes Go.WideShapes Go.ChangeAt Go.RowKit

theorem U64_of_wf {z : Int} (h : (Lit.int .u64 z).wf = true) : U64 z := by
  have : 0 ≤ z ∧ z ≤ 18446744073709551615 := by simpa [Lit.wf, IntKind.min, IntKind.max, IntKind.signed, IntKind.bits] using h
  exact ⟨this.1, by omega⟩

/-- four cells that read as a set -/
theorem trod_set {H : Type} {enc : TypeId × Value → H} {P : Program} {W : World} {base : Nat} {sp : Nat → Bool} {held : Bool} {t e : TypeId} {fuel : Nat} {cs : List Value} {x : DataW H × List MemPlace}
    (ht : P.underlying t = some (.array 4 e)) (he : P.underlying e = some (.int .u64)) (hc : P.cellsOf e = 1) (hct : P.cellsOf t = 4) (h : DataW.trod enc P W base sp held fuel t cs = some x) :
    ∃ a b c d, cs = [.int .u64 a, .int .u64 b, .int .u64 c, .int .u64 d] ∧ U64 a ∧ U64 b ∧ U64 c ∧ U64 d := by
  obtain ⟨xs, m, _, _, hl, hx, hi⟩ := DataW.trod_array ht h
  rw [hct] at hl
  match cs, hl with
  | [v0, v1, v2, v3], _ =>
    match xs, hx with
    | [y0, y1, y2, y3], _ =>
      have g0 := hi 0 (by omega)
      have g1 := hi 1 (by omega)
      have g2 := hi 2 (by omega)
      have g3 := hi 3 (by omega)
      rw [hc] at g0 g1 g2 g3
      obtain ⟨a, ha, _, wa⟩ := DataW.trod_int he g0
      obtain ⟨b, hb, _, wb⟩ := DataW.trod_int he g1
      obtain ⟨c, hc, _, wc⟩ := DataW.trod_int he g2
      obtain ⟨d, hd, _, wd⟩ := DataW.trod_int he g3
      simp at ha hb hc hd
      subst ha hb hc hd
      exact ⟨a, b, c, d, rfl, U64_of_wf wa, U64_of_wf wb, U64_of_wf wc, U64_of_wf wd⟩

theorem agg_of_cells {v : Value} {cs : List Value} (h : v.cells.toList = cs) (hl : cs.length ≠ 1) : v = .agg cs.toArray := by
  cases v <;> simp [Value.cells] at h
  case agg c => rw [← h]
  all_goals (subst h; simp at hl)

theorem open_set {H : Type} {enc : TypeId × Value → H} {P : Program} {W : World} {base : Nat} {sp : Nat → Bool} {held : Bool} {t e : TypeId} {v : Value} {d : DataW H} {p : List MemPlace}
    (ht : P.underlying t = some (.array 4 e)) (he : P.underlying e = some (.int .u64)) (hc : P.cellsOf e = 1) (hct : P.cellsOf t = 4) (h : DataW.Trod enc P W base sp held t v d p) :
    ∃ a b c d, v = .agg #[.int .u64 a, .int .u64 b, .int .u64 c, .int .u64 d] ∧ U64 a ∧ U64 b ∧ U64 c ∧ U64 d := by
  obtain ⟨fuel, hf⟩ := h
  obtain ⟨a, b, c, d, hcs, h1⟩ := trod_set ht he hc hct hf
  exact ⟨a, b, c, d, agg_of_cells hcs (by simp), h1⟩
end Go.Proofs.YtndhbdbfjkmloaaDoor
