/- How rows of grammars and of texts that came in are opened. -/
import Derived.Test.YtefechceoeeonaaGF
import Derived.Test.YtefechceoeeonaaGE
import Derived.Test.YtefechceoeeonaaKoB
import Derived.SliceStrings
namespace Go.Proofs.Ytefechceoeeonaa
open Go.ChangeShapes Go.WideShapes Go.ChangeAt Go.RowKit

theorem open_strs {H : Type} {enc : TypeId × Value → H} {P : Program} {W : World} {t e : TypeId} {a : Option Addr} {n c : Nat} {d : DataW H} {p : List MemPlace}
    (ht : P.underlying t = some (.slice e)) (he : P.underlying e = some .string) (hc : P.cellsOf e = 1) (hby : P.bytesOf e = 16)
    (h : DataW.Trod enc P W 0 (fun _ => true) true t (.slice a n c) d p)
    (hsz : ∀ elems spare, d = .slice elems spare → (elems.length + spare.length) * P.bytesOf e ≤ reachBytes) :
    ∃ ss : List ByteArray, n = ss.length ∧ Reads W W.heap.size 1 a ss.length (ss.map Value.string) ∧ ss.length ≤ 8796093022208 := by
  obtain ⟨fuel, hf⟩ := h
  rcases open_strings ht he hc hf with ⟨hcs, _⟩ | ⟨x, l, c', ss, hcs, _, hl, hm, hz, hx, hcell, _⟩
  · simp [Value.cells] at hcs
    obtain ⟨rfl, rfl, rfl⟩ := hcs
    exact ⟨[], rfl, Reads.none_, by simp⟩
  · simp [Value.cells] at hcs
    obtain ⟨rfl, rfl, rfl⟩ := hcs
    have hz' : ss.length = c := by simpa using hz
    simp only [Prod.mk.injEq] at hx
    have hs := hsz _ _ hx.1
    have hbd : c ≤ 8796093022208 := by
      rw [hby] at hs
      simp only [strs, List.length_map, List.length_take, List.length_drop, reachBytes] at hs
      omega
    have hn : n = (ss.take n).length := by rw [List.length_take]; omega
    refine ⟨ss.take n, hn, ⟨by simp, fun hp => ⟨x, rfl, ?_, fun j u hu => ?_⟩⟩, by rw [← hn]; omega⟩
    · have := World.block_lt_of_cell? W _ (hcell 0 (by omega))
      rwa [add_block] at this
    · rw [List.getElem?_map, Option.map_eq_some_iff] at hu
      obtain ⟨s, hs1, rfl⟩ := hu
      have hj := getElem?_lt hs1
      rw [List.length_take] at hj
      rw [List.getElem?_take_of_lt (by omega)] at hs1
      rw [hcell j (by omega), List.getD_eq_getElem?_getD, hs1]
      rfl
set_option maxRecDepth 100000 in
theorem open_grams {H : Type} {enc : TypeId × Value → H} {W : World} {A : Option Addr} {n cp : Nat} {d : DataW H} {p : List MemPlace}
    (h : DataW.Trod enc Try.prog W 0 (fun _ => true) true 47 (.slice A n cp) d p) : ∃ js : List Gm, n = js.length ∧ (∀ j ∈ js, j.In W) ∧ Reads W W.heap.size 1 A js.length (js.map Gm.val) := by
  obtain ⟨fuel, hf⟩ := h
  rcases DataW.trod_slice Try.underlying47 hf with ⟨e3, _⟩ | ⟨ad, len, cap, elems, rest, m, e4, e3, e5, _, hlc, hcm, hel, hk, _⟩
  · simp [Value.cells] at e3
    obtain ⟨rfl, rfl, rfl⟩ := e3
    exact ⟨[], rfl, fun j h => (by cases h), Reads.none_⟩
  · simp [Value.cells] at e3
    obtain ⟨rfl, rfl, rfl⟩ := e3
    have hk' : ∀ i, i < n → ∃ v : Gm, v.In W ∧ ad.block < W.heap.size ∧ W.cell? (ad.add i) = some v.val := by
      intro i hi
      have hg := hk i hi
      have hil : i < elems.length := by omega
      rw [List.getElem?_eq_getElem hil, gram_cells] at hg
      obtain ⟨ci, hc1, hc2⟩ := Option.bind_eq_some_iff.1 hg
      obtain ⟨_, hc3, hc4⟩ := World.cells?_some hc1
      match ci, hc3 with
      | [c0], _ =>
        obtain ⟨g, A, cp, row, e0, hg, hwg⟩ := open_gram (v := .agg #[c0]) ⟨#[c0], rfl, by rw [gram_cells]; rfl⟩ ⟨m, hc2⟩
        simp at e0
        subst e0
        have h5 := hc4 0 (by omega)
        rw [Nat.mul_one] at h5
        have hb := World.block_lt_of_cell? W _ h5
        rw [add_block, add_block] at hb
        exact ⟨⟨A, g, cp, row⟩, ⟨hg, hwg⟩, hb, h5⟩
    obtain ⟨q, hq⟩ := @row_of Gm ⟨⟨none, [], 0, fun _ => []⟩⟩ _ _ hk'
    have hlen : ((List.range n).map q).length = n := by simp
    refine ⟨(List.range n).map q, hlen.symm, fun j hj => ?_, ⟨by simp, fun hn => ⟨ad, rfl, (hq 0 (by omega)).2.1, fun i u hu => ?_⟩⟩⟩
    · obtain ⟨i, hi, rfl⟩ := List.mem_map.1 hj
      exact (hq i (List.mem_range.1 hi)).1
    · have hi := getElem?_lt hu
      have hi' : i < n := by simpa using hi
      rw [List.getElem?_map, List.getElem?_map, List.getElem?_range hi'] at hu
      simp only [Option.map_some, Option.some.injEq] at hu
      subst hu
      exact (hq i hi').2.2
end Go.Proofs.Ytefechceoeeonaa
