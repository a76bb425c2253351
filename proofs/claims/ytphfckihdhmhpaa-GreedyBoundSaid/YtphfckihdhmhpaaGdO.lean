/- How rows of rows of ints that came in are opened. -/
import Derived.Test.YtphfckihdhmhpaaGdA
import Derived.Test.YtphfckihdhmhpaaGE
import Derived.Deep.Matrix
namespace Go.Proofs.Ytphfckihdhmhpaa
open Go.ChangeShapes Go.WideShapes Go.ChangeAt Go.RowKit

theorem open_rows {H : Type} {enc : TypeId × Value → H} {W : World} {a : Option Addr} {n c : Nat} {d : DataW H} {p : List MemPlace}
    (h : DataW.Trod enc Try.prog W 0 (fun _ => true) true 72 (.slice a n c) d p) :
    ∃ rows : List (List Int), n = rows.length ∧ RowsIs W W.heap.size rows a c := by
  obtain ⟨fuel, hf⟩ := h
  rcases Go.Deep.open_int_rows Try.underlying72 Try.underlying63 Try.underlying3 (by kernel_rfl) (by kernel_rfl) hf with ⟨hcs, _⟩ | ⟨x, len, cap, A, L, C, Z, hcs, _, hl, hm, _, hr⟩
  · simp [Value.cells] at hcs
    obtain ⟨rfl, rfl, rfl⟩ := hcs
    exact ⟨[], rfl, by simp, by unfold maxLen; omega, fun i r hr => by simp at hr⟩
  · simp [Value.cells] at hcs
    obtain ⟨rfl, rfl, rfl⟩ := hcs
    refine ⟨(List.range n).map fun r => (Z r).take (L r), by simp, by simpa using hl, hm, fun i r hi => ?_⟩
    rw [List.getElem?_map, Option.map_eq_some_iff] at hi
    obtain ⟨j, hj, rfl⟩ := hi
    have hin := getElem?_lt hj
    rw [List.length_range] at hin
    rw [List.getElem?_range hin] at hj
    injection hj with hj
    subst hj
    obtain ⟨h1, h2, h3, h4, _, h6, h7⟩ := hr i (by omega)
    have hlen : ((Z i).take (L i)).length = L i := by rw [List.length_take]; omega
    refine ⟨x, A i, C i, rfl, ?_, by rw [hlen]; exact h1, by rw [hlen]; exact h2, h3, ⟨by rw [hlen]; simp [ints]; omega, fun hn => ?_⟩⟩
    · have := World.block_lt_of_cell? W _ h1
      rwa [add_block] at this
    · rw [hlen] at hn
      cases hA : A i with
      | none => have := h6 hA; omega
      | some a' =>
        obtain ⟨_, hc⟩ := h7 a' hA
        refine ⟨a', rfl, ?_, fun j u hu => ?_⟩
        · have := World.block_lt_of_cell? W _ (hc 0 (by omega))
          rwa [add_block] at this
        · simp only [ints, List.getElem?_map, List.getElem?_take, Option.map_eq_some_iff] at hu
          obtain ⟨z, hz, rfl⟩ := hu
          split at hz
          · have := hc j (by omega)
            rw [this, List.getD_eq_getElem?_getD, hz]
            rfl
          · cases hz
end Go.Proofs.Ytphfckihdhmhpaa
