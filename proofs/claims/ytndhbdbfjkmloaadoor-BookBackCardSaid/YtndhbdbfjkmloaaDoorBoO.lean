/- How a list of cases that came in is opened. -/
import Derived.Test.YtndhbdbfjkmloaaDoorBkS
import Derived.Test.YtndhbdbfjkmloaaDoorEx4
import Derived.Test.YtndhbdbfjkmloaaDoorOpen
namespace Go.Proofs.YtndhbdbfjkmloaaDoor
open Go.ChangeShapes Go.WideShapes Go.ChangeAt Go.RowKit

theorem case_fields : (Tryd.prog.underlying 49).map (fun u => match u with | .struct fs => fs.toList.map (fun f => (f.type, f.offset)) | _ => []) = some [(3, 0), (3, 1), (9, 2)] := by kernel_rfl
theorem case_cells : Tryd.prog.cellsOf 49 = 3 := by kernel_rfl

set_option maxRecDepth 100000 in
theorem trod_case {H : Type} {enc : TypeId × Value → H} {W : World} {fuel : Nat} {cs : List Value} {x : DataW H × List MemPlace} (h : DataW.trod enc Tryd.prog W 0 (fun _ => true) true fuel 49 cs = some x) :
    ∃ c : Cs, cs = c.vals := by
  obtain ⟨u, hu, hf⟩ := Option.map_eq_some_iff.1 case_fields
  match u, hf with
  | .struct fs, hf =>
    obtain ⟨xs, n, rfl, rfl, hl, hlen, hget⟩ := DataW.trod_struct hu h
    rw [case_cells] at hl
    have hf' : fs.toList.map (fun f => (f.type, f.offset)) = [(3, 0), (3, 1), (9, 2)] := hf
    have hfl : fs.toList.length = 3 := by have := congrArg List.length hf'; simpa using this
    have hfs : fs.size = 3 := by simpa using hfl
    have hxl : xs.length = 3 := by rw [hlen, hfs]
    match xs, hxl with
    | [y0, y1, y2], _ =>
    have at_ : ∀ (i : Nat) (t o : Nat), [(3, 0), (3, 1), (9, 2)][i]? = some (t, o) → DataW.trod enc Tryd.prog W 0 (fun _ => true) true n t ((cs.drop o).take (Tryd.prog.cellsOf t)) = [y0, y1, y2][i]? := by
      intro i t o hi
      rw [← hf', List.getElem?_map, Option.map_eq_some_iff] at hi
      obtain ⟨f, hf1, hf2⟩ := hi
      have hg := hget i f (by simpa using hf1)
      injection hf2 with e1 e2
      subst e1 e2
      exact hg
    have h0 := at_ 0 _ _ rfl
    have h1 := at_ 1 _ _ rfl
    have h2 := at_ 2 _ _ rfl
    rw [show Tryd.prog.cellsOf 3 = 1 from by kernel_rfl] at h0 h1
    rw [show Tryd.prog.cellsOf 9 = 1 from by kernel_rfl] at h2
    obtain ⟨r, e0, _, _⟩ := DataW.trod_int Tryd.underlying3 h0
    obtain ⟨f, e1, _, _⟩ := DataW.trod_int Tryd.underlying3 h1
    obtain ⟨g, e2, _, _⟩ := DataW.trod_string Tryd.underlying9 h2
    match cs, hl with
    | [c0, c1, c2], _ =>
      simp at e0 e1 e2
      subst e0 e1 e2
      exact ⟨(r, f, g), rfl⟩

theorem caseC_range (f : Nat → Cs) (n : Nat) (j : Nat) (u : Value) (h : (caseC ((List.range n).map f))[j]? = some u) : j / 3 < n ∧ (f (j / 3)).vals[j % 3]? = some u := by
  have hj := getElem?_lt h
  rw [caseC_len] at hj
  simp at hj
  have hd : j / 3 < n := by omega
  refine ⟨hd, ?_⟩
  have hg : ((List.range n).map f)[j / 3]? = some (f (j / 3)) := by simp [hd]
  have := caseC_get _ (j / 3) (j % 3) _ hg (Nat.mod_lt _ (by omega))
  rw [show j / 3 * 3 + j % 3 = j from by omega, h] at this
  exact this.symm
theorem case_row {P : Nat → Cs → Prop} {n : Nat} (h : ∀ i, i < n → ∃ c, P i c) : ∃ f : Nat → Cs, ∀ i, i < n → P i (f i) :=
  ⟨fun i => if hi : i < n then Classical.choose (h i hi) else (0, 0, ⟨#[]⟩), fun i hi => by simp only [dif_pos hi]; exact Classical.choose_spec (h i hi)⟩
theorem open_cases {H : Type} {enc : TypeId × Value → H} {W : World} {A : Option Addr} {n c : Nat} {d : DataW H} {p : List MemPlace} (h : DataW.Trod enc Tryd.prog W 0 (fun _ => true) true 46 (.slice A n c) d p) :
    ∃ l, Reads W W.heap.size 3 A n (caseC l) ∧ l.length = n := by
  obtain ⟨fuel, hf⟩ := h
  rcases DataW.trod_slice Tryd.underlying46 hf with ⟨e3, _⟩ | ⟨ad, len, cap, elems, rest, m, e4, e3, e5, _, hlc, hcm, hel, hk, _⟩
  · simp [Value.cells] at e3
    obtain ⟨rfl, rfl, rfl⟩ := e3
    exact ⟨[], Reads.none_, rfl⟩
  · simp [Value.cells] at e3
    obtain ⟨rfl, rfl, rfl⟩ := e3
    have hk' : ∀ i, i < n → ∃ v : Cs, ad.block < W.heap.size ∧ (∀ j u, v.vals[j]? = some u → W.cell? ((ad.add (i * 3)).add j) = some u) := by
      intro i hi
      have hg := hk i hi
      rw [List.getElem?_eq_getElem (by omega), case_cells] at hg
      obtain ⟨ci, hc1, hc2⟩ := Option.bind_eq_some_iff.1 hg
      obtain ⟨v, rfl⟩ := trod_case hc2
      obtain ⟨_, hc3, hc4⟩ := World.cells?_some hc1
      have hb := World.block_lt_of_cell? W _ ((hc4 0 (by omega)).trans (List.getElem?_eq_getElem (by simp [Cs.vals])))
      rw [add_block, add_block] at hb
      refine ⟨v, hb, fun j u hu => ?_⟩
      rw [hc4 j (by have := getElem?_lt hu; simpa [Cs.vals] using this)]
      exact hu
    obtain ⟨q, hq⟩ := case_row hk'
    refine ⟨(List.range n).map q, ⟨by rw [caseC_len]; simp, fun hn => ⟨ad, rfl, (hq 0 hn).1, fun j u hu => ?_⟩⟩, by simp⟩
    obtain ⟨h1, h2⟩ := caseC_range q n j u hu
    have := (hq _ h1).2 _ _ h2
    rw [add_add'] at this
    rw [show j = j / 3 * 3 + j % 3 from by omega]
    exact this
end Go.Proofs.YtndhbdbfjkmloaaDoor
