/- How an expression that came in is opened. -/
import Derived.Test.YtndhbdbfjkmloaaDoorEx3
import Derived.Test.YtndhbdbfjkmloaaDoorOpenSet
namespace Go.Proofs.YtndhbdbfjkmloaaDoor
open Go.ChangeShapes Go.WideShapes Go.ChangeAt Go.RowKit

theorem ex_fields : (Tryd.prog.underlying 27).map (fun u => match u with | .struct fs => fs.toList.map (fun f => (f.type, f.offset)) | _ => []) = some [(3, 0), (24, 1), (9, 5), (25, 6)] := by kernel_rfl
theorem ex_cells : Tryd.prog.cellsOf 27 = 7 := by kernel_rfl

theorem seven_of {cs : List Value} (h : cs.length = 7) : ∃ c0 c1 c2 c3 c4 c5 c6, cs = [c0, c1, c2, c3, c4, c5, c6] := by
  match cs, h with
  | [c0, c1, c2, c3, c4, c5, c6], _ => exact ⟨c0, c1, c2, c3, c4, c5, c6, rfl⟩
theorem eight_of {cs : List Value} (h : cs.length = 8) : ∃ c0 c1 c2 c3 c4 c5 c6 c7, cs = [c0, c1, c2, c3, c4, c5, c6, c7] := by
  match cs, h with
  | [c0, c1, c2, c3, c4, c5, c6, c7], _ => exact ⟨c0, c1, c2, c3, c4, c5, c6, c7, rfl⟩
theorem row_of {α : Type} [Inhabited α] {n : Nat} {p : Nat → α → Prop} (h : ∀ i, i < n → ∃ x, p i x) : ∃ f : Nat → α, ∀ i, i < n → p i (f i) := by
  have h' : ∀ i, ∃ x, i < n → p i x := fun i => by
    by_cases hi : i < n
    · obtain ⟨x, hx⟩ := h i hi
      exact ⟨x, fun _ => hx⟩
    · exact ⟨default, fun h => absurd h hi⟩
  exact ⟨fun i => (h' i).choose, fun i hi => (h' i).choose_spec hi⟩

set_option maxRecDepth 100000 in
theorem trod_ex {H : Type} {enc : TypeId × Value → H} {W : World} : ∀ (fuel : Nat) {cs : List Value} {x : DataW H × List MemPlace},
    DataW.trod enc Tryd.prog W 0 (fun _ => true) true fuel 27 cs = some x → ∃ e, ExIs W W.heap.size e cs := by
  intro fuel
  induction fuel using Nat.strongRecOn with
  | _ fuel ih =>
    intro cs x h
    obtain ⟨u, hu, hf⟩ := Option.map_eq_some_iff.1 ex_fields
    match u, hf with
    | .struct fs, hf =>
      obtain ⟨xs, n, rfl, _, hl, hlen, hget⟩ := DataW.trod_struct hu h
      rw [ex_cells] at hl
      have hf' : fs.toList.map (fun f => (f.type, f.offset)) = [(3, 0), (24, 1), (9, 5), (25, 6)] := hf
      have hfl : fs.toList.length = 4 := by have := congrArg List.length hf'; simpa using this
      have at_ : ∀ (i : Nat) (t o : Nat), [(3, 0), (24, 1), (9, 5), (25, 6)][i]? = some (t, o) → ∃ y, DataW.trod enc Tryd.prog W 0 (fun _ => true) true n t ((cs.drop o).take (Tryd.prog.cellsOf t)) = some y := by
        intro i t o hi
        rw [← hf', List.getElem?_map, Option.map_eq_some_iff] at hi
        obtain ⟨f, hf1, hf2⟩ := hi
        have hg := hget i f (by simpa using hf1)
        injection hf2 with e1 e2
        subst e1 e2
        have : i < xs.length := by
          have h3 := getElem?_lt hf1
          rw [hfl] at h3
          have h4 : fs.size = 4 := by simpa using hfl
          rw [hlen, h4]
          exact h3
        rw [List.getElem?_eq_getElem this] at hg
        exact ⟨_, hg⟩
      obtain ⟨y0, h0⟩ := at_ 0 _ _ rfl
      obtain ⟨y1, h1⟩ := at_ 1 _ _ rfl
      obtain ⟨y2, h2⟩ := at_ 2 _ _ rfl
      obtain ⟨y3, h3⟩ := at_ 3 _ _ rfl
      rw [show Tryd.prog.cellsOf 3 = 1 from by kernel_rfl] at h0
      rw [show Tryd.prog.cellsOf 24 = 4 from by kernel_rfl] at h1
      rw [show Tryd.prog.cellsOf 9 = 1 from by kernel_rfl] at h2
      rw [show Tryd.prog.cellsOf 25 = 1 from by kernel_rfl] at h3
      obtain ⟨k, e0, _, wk⟩ := DataW.trod_int Tryd.underlying3 h0
      obtain ⟨a, b, c, d, e1, ws⟩ := trod_set Tryd.underlying24 Tryd.underlying22 (by kernel_rfl) (by kernel_rfl) h1
      obtain ⟨t, e2, _, wt⟩ := DataW.trod_string Tryd.underlying9 h2
      obtain ⟨c0, c1, c2, c3, c4, c5, c6, rfl⟩ := seven_of hl
      simp at e0 e1 e2
      subst e0 e2
      obtain ⟨rfl, rfl, rfl, rfl⟩ := e1
      rcases DataW.trod_slice Tryd.underlying25 h3 with ⟨e3, _⟩ | ⟨ad, len, cap, elems, rest, m, e4, e3, _, _, hlc, hcm, hel, hk, _⟩
      · simp at e3
        subst e3
        exact ⟨.mk k a b c d t [], .mk k a b c d t [] none 0 (fun _ => []) wt (by simp) (by unfold maxLen; omega) (fun _ => rfl) (fun h => by simp at h) (fun i e h => by simp at h) (fun i e ad h => by simp at h)⟩
      · simp at e3
        subst e3
        have hk' : ∀ i, i < len → ∃ r : Ex × List Value, ExIs W W.heap.size r.1 r.2 ∧ ad.block < W.heap.size ∧ ∀ j u, r.2[j]? = some u → W.cell? ((ad.add (i * 7)).add j) = some u := by
          intro i hi
          have hg := hk i hi
          rw [List.getElem?_eq_getElem (by omega), ex_cells] at hg
          obtain ⟨ci, hc1, hc2⟩ := Option.bind_eq_some_iff.1 hg
          obtain ⟨e, he⟩ := ih m (by omega) hc2
          obtain ⟨_, hc3, hc4⟩ := World.cells?_some hc1
          have hb := World.block_lt_of_cell? W _ ((hc4 0 (by omega)).trans (List.getElem?_eq_getElem (by omega)))
          rw [add_block, add_block] at hb
          refine ⟨(e, ci), he, hb, fun j u hu => ?_⟩
          rw [hc4 j (by have := getElem?_lt hu; simp at this; omega)]
          exact hu
        obtain ⟨f, hf⟩ := @row_of (Ex × List Value) ⟨(.mk 0 0 0 0 0 ⟨#[]⟩ [], [])⟩ _ _ hk'
        have hlen' : ((List.range len).map fun i => (f i).1).length = len := by simp
        have hget : ∀ i e, ((List.range len).map fun i => (f i).1)[i]? = some e → i < len ∧ e = (f i).1 := by
          intro i e he
          have hi := getElem?_lt he
          rw [hlen'] at hi
          simp [hi] at he
          exact ⟨hi, he.symm⟩
        have hx := ExIs.mk (w := W) (B := W.heap.size) k a b c d t ((List.range len).map fun i => (f i).1) (some ad) cap (fun i => (f i).2) wt (by rw [hlen']; exact hlc) hcm (fun h => by cases h)
          (fun h => ⟨ad, rfl, (hf 0 (by rw [hlen'] at h; exact h)).2.1⟩) (fun i e he => by obtain ⟨hi, rfl⟩ := hget i e he; exact (hf i hi).1)
          (fun i e ad' he hA j u hu => by obtain ⟨hi, rfl⟩ := hget i e he; injection hA with hA; subst hA; exact (hf i hi).2.2 j u hu)
        rw [hlen'] at hx
        exact ⟨_, hx⟩
theorem open_ex {H : Type} {enc : TypeId × Value → H} {W : World} {v : Value} {d : DataW H} {p : List MemPlace} (h : DataW.Trod enc Tryd.prog W 0 (fun _ => true) true 27 v d p) :
    ∃ e cs, v = .agg cs.toArray ∧ ExIs W W.heap.size e cs := by
  obtain ⟨fuel, hf⟩ := h
  obtain ⟨e, he⟩ := trod_ex fuel hf
  refine ⟨e, _, agg_of_cells rfl ?_, he⟩
  generalize v.cells.toList = cs at he
  cases he
  simp
end Go.Proofs.YtndhbdbfjkmloaaDoor
