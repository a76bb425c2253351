/- How a row of texts that came in is opened, with its room. -/
import Derived.Test.YtphfckihdhmhpaaGA
import Derived.Test.YtphfckihdhmhpaaGE
import Derived.SliceStrings
namespace Go.Proofs.Ytphfckihdhmhpaa
open Go.ChangeShapes Go.WideShapes Go.ChangeAt Go.RowKit

theorem open_strsC {H : Type} {enc : TypeId × Value → H} {P : Program} {W : World} {t e : TypeId} {a : Option Addr} {n c : Nat} {d : DataW H} {p : List MemPlace}
    (ht : P.underlying t = some (.slice e)) (he : P.underlying e = some .string) (hc : P.cellsOf e = 1)
    (h : DataW.Trod enc P W 0 (fun _ => true) true t (.slice a n c) d p) :
    ∃ ss : List ByteArray, n = ss.length ∧ Reads W W.heap.size 1 a ss.length (ss.map Value.string) ∧ ss.length ≤ c ∧ c ≤ maxLen := by
  obtain ⟨fuel, hf⟩ := h
  rcases open_strings ht he hc hf with ⟨hcs, _⟩ | ⟨x, l, c', ss, hcs, _, hl, hm, hz, hx, hcell, _⟩
  · simp [Value.cells] at hcs
    obtain ⟨rfl, rfl, rfl⟩ := hcs
    exact ⟨[], rfl, Reads.none_, by simp, by unfold maxLen; omega⟩
  · simp [Value.cells] at hcs
    obtain ⟨rfl, rfl, rfl⟩ := hcs
    have hz' : ss.length = c := by simpa using hz
    have hn : n = (ss.take n).length := by rw [List.length_take]; omega
    refine ⟨ss.take n, hn, ⟨by simp, fun hp => ⟨x, rfl, ?_, fun j u hu => ?_⟩⟩, by rw [← hn]; exact hl, hm⟩
    · have := World.block_lt_of_cell? W _ (hcell 0 (by omega))
      rwa [add_block] at this
    · rw [List.getElem?_map, Option.map_eq_some_iff] at hu
      obtain ⟨s, hs1, rfl⟩ := hu
      have hj := getElem?_lt hs1
      rw [List.length_take] at hj
      rw [List.getElem?_take_of_lt (by omega)] at hs1
      rw [hcell j (by omega), List.getD_eq_getElem?_getD, hs1]
      rfl
end Go.Proofs.Ytphfckihdhmhpaa
