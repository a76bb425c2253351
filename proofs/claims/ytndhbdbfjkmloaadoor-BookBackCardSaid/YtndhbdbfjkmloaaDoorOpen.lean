/- How the arguments of a law are opened: what a reading of a slice of ints gives the walk. -/
import Derived.Test.YtndhbdbfjkmloaaDoorBase
import Derived.ProofKit
import Derived.OpenShut
import Derived.ShutString
import Derived.ChangeOld
import Derived.SizedLaws
namespace Go.Proofs.YtndhbdbfjkmloaaDoor
open Go.ChangeShapes Go.WideShapes Go.ChangeAt Go.RowKit

theorem I64_of_wf {z : Int} (h : (Lit.int .i64 z).wf = true) : I64 z := by
  simpa [I64, Lit.wf, IntKind.min, IntKind.max, IntKind.signed, IntKind.bits] using h

/-- what is told of a slice of ints that came in: its elements, and all its cells -/
def IntRow (W : World) (a : Option Addr) (n c : Nat) (zs all : List Int) : Prop :=
  Reads W W.heap.size 1 a n (ints zs) ∧ n ≤ c ∧ Small c ∧ (∀ z ∈ zs, I64 z) ∧ zs = all.take n ∧ all.length = c ∧ (a = none → c = 0)

theorem open_introw {H : Type} {enc : TypeId × Value → H} {P : Program} {W : World} {t e : TypeId} {a : Option Addr} {n c : Nat} {d : DataW H} {p : List MemPlace}
    (ht : P.underlying t = some (.slice e)) (he : P.underlying e = some (.int .i64)) (hc : P.cellsOf e = 1) (hby : P.bytesOf e = 8)
    (h : DataW.Trod enc P W 0 (fun _ => true) true t (.slice a n c) d p)
    (hsz : ∀ elems spare, d = .slice elems spare → (elems.length + spare.length) * P.bytesOf e ≤ reachBytes) :
    ∃ zs all, IntRow W a n c zs all := by
  obtain ⟨fuel, hf⟩ := h
  rcases open_ints ht he hc hf with ⟨hcs, _⟩ | ⟨x, l, c', zs, hcs, _, hl, hm, hz, hx, hcell, hwz⟩
  · simp [Value.cells] at hcs
    obtain ⟨rfl, rfl, rfl⟩ := hcs
    exact ⟨[], [], Reads.none_, Nat.le_refl _, by simp [Small], by simp, rfl, rfl, fun _ => rfl⟩
  · simp [Value.cells] at hcs
    obtain ⟨rfl, rfl, rfl⟩ := hcs
    have hz' : zs.length = c := by simpa using hz
    simp only [Prod.mk.injEq] at hx
    have hs := hsz _ _ hx.1
    have hbd : c ≤ 17592186044415 := by
      rw [hby] at hs
      simp only [lits, List.length_map, List.length_take, List.length_drop, reachBytes] at hs
      omega
    refine ⟨zs.take n, zs, ⟨by simp [ints]; omega, fun hn => ⟨x, rfl, ?_, ?_⟩⟩, hl, hbd, fun z hz => I64_of_wf (hwz z (List.mem_of_mem_take hz)), rfl, hz', fun h => by cases h⟩
    · have := World.block_lt_of_cell? W _ (hcell 0 (by omega))
      rwa [add_block] at this
    · intro j u hu
      simp only [ints, List.getElem?_map, List.getElem?_take, Option.map_eq_some_iff] at hu
      obtain ⟨z, hz, rfl⟩ := hu
      split at hz
      · have := hcell j (getElem?_lt hz)
        rw [this, List.getD_eq_getElem?_getD, hz]
        rfl
      · cases hz
end Go.Proofs.YtndhbdbfjkmloaaDoor
