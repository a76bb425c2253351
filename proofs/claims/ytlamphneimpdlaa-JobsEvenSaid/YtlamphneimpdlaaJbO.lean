/- How jobs that came in are opened. -/
import Derived.Test.YtlamphneimpdlaaGF
import Derived.Test.YtlamphneimpdlaaJbD
namespace Go.Proofs.Ytlamphneimpdlaa
open Go.ChangeShapes Go.WideShapes Go.ChangeAt Go.RowKit

theorem job_fields : (Try.prog.underlying 73).map (fun u => match u with | .struct fs => fs.toList.map (fun f => (f.type, f.offset)) | _ => []) = some [(24, 0), (9, 1), (3, 2), (3, 3)] := by kernel_rfl
theorem job_cells : Try.prog.cellsOf 73 = 4 := by kernel_rfl
theorem jb_len : ∀ js : List Jb, (js.flatMap Jb.cells).length = js.length * 4
  | [] => rfl
  | j :: js => by rw [List.flatMap_cons, List.length_append, jb_len js, List.length_cons]; show 4 + _ = _; omega
theorem weights_all {H : Type} {P : Program} {e : TypeId} : ∀ {l : List (DataW H)} {d : DataW H}, d ∈ l → ∀ {n}, n ∈ d.weights P e → n ∈ DataW.weightsAll P e l
  | x :: l, d, hd, n, hn => by
    simp only [DataW.weightsAll, List.mem_append]
    rcases List.mem_cons.1 hd with rfl | h
    · exact .inl hn
    · exact .inr (weights_all h hn)
set_option maxRecDepth 100000 in
theorem trod_job {H : Type} {enc : TypeId × Value → H} {W : World} {fuel : Nat} {cs : List Value} {x : DataW H × List MemPlace} (hw : ∀ n ∈ x.1.weights Try.prog 73, n ≤ reachBytes)
    (h : DataW.trod enc Try.prog W 0 (fun _ => true) true fuel 73 cs = some x) : ∃ j : Jb, cs = j.cells ∧ j.In W := by
  obtain ⟨u, hu, hf⟩ := Option.map_eq_some_iff.1 job_fields
  match u, hf with
  | .struct fs, hf =>
    obtain ⟨xs, n, rfl, hx, hl, hlen, hget⟩ := DataW.trod_struct hu h
    rw [job_cells] at hl
    have hf' : fs.toList.map (fun f => (f.type, f.offset)) = [(24, 0), (9, 1), (3, 2), (3, 3)] := hf
    have hfl : fs.toList.length = 4 := by have := congrArg List.length hf'; simpa using this
    have hfs : fs.size = 4 := by simpa using hfl
    have hft : fs.toList.map (·.type) = [24, 9, 3, 3] := by
      have := congrArg (List.map Prod.fst) hf'
      simpa [List.map_map, Function.comp_def] using this
    have hxl : xs.length = 4 := by rw [hlen, hfs]
    match xs, hxl with
    | [y0, y1, y2, y3], _ =>
    have at_ : ∀ (i : Nat) (t o : Nat), [(24, 0), (9, 1), (3, 2), (3, 3)][i]? = some (t, o) → DataW.trod enc Try.prog W 0 (fun _ => true) true n t ((cs.drop o).take (Try.prog.cellsOf t)) = [y0, y1, y2, y3][i]? := by
      intro i t o hi
      rw [← hf', List.getElem?_map, Option.map_eq_some_iff] at hi
      obtain ⟨f, hf1, hf2⟩ := hi
      have hg := hget i f (by simpa using hf1)
      injection hf2 with e1 e2
      subst e1 e2
      exact hg
    have h0 := at_ 0 _ _ rfl
    have h1 := at_ 1 _ _ rfl
    have h2 := at_ 2 _ _ rfl
    have h3 := at_ 3 _ _ rfl
    rw [show Try.prog.cellsOf 3 = 1 from by kernel_rfl] at h2 h3
    rw [show Try.prog.cellsOf 9 = 1 from by kernel_rfl] at h1
    rw [gram_cells] at h0
    match cs, hl with
    | [c0, c1, c2, c3], _ =>
    obtain ⟨g, A, cp, row, e0, hg, hwg⟩ := open_gram (v := .agg #[c0]) ⟨#[c0], rfl, by rw [gram_cells]; rfl⟩ ⟨n, h0⟩
    obtain ⟨s, e1, hy1, ws⟩ := DataW.trod_string Try.underlying9 h1
    obtain ⟨k, e2, _, wk⟩ := DataW.trod_int Try.underlying3 h2
    obtain ⟨b, e3, _, wb⟩ := DataW.trod_int Try.underlying3 h3
    simp at e0 e1 e2 e3
    subst e0 e1 e2 e3
    refine ⟨⟨A, g, cp, row, s, k, b⟩, rfl, hg, hwg, ?_, I64_of_wf wk, I64_of_wf wb⟩
    have h4 := hw s.data.toList.length (by
      rw [hx]
      simp only [List.map_cons, List.map_nil, DataW.weights, hu, hft, DataW.weightsEach, hy1]
      simp)
    rw [size_list] at h4
    exact h4
set_option maxRecDepth 100000 in
theorem open_jobs {H : Type} {enc : TypeId × Value → H} {W : World} {A : Option Addr} {n cp : Nat} {d : DataW H} {p : List MemPlace} (hw : ∀ k ∈ d.weights Try.prog 68, k ≤ reachBytes)
    (h : DataW.Trod enc Try.prog W 0 (fun _ => true) true 68 (.slice A n cp) d p) : ∃ js : List Jb, js.length = n ∧ (∀ j ∈ js, j.In W) ∧ Reads W W.heap.size 4 A n (js.flatMap Jb.cells) ∧ n ≤ cp := by
  obtain ⟨fuel, hf⟩ := h
  rcases DataW.trod_slice Try.underlying68 hf with ⟨e3, _⟩ | ⟨ad, len, cap, elems, rest, m, e4, e3, e5, _, hlc, hcm, hel, hk, _⟩
  · simp [Value.cells] at e3
    obtain ⟨rfl, rfl, rfl⟩ := e3
    exact ⟨[], rfl, fun j h => (by cases h), Reads.none_, Nat.le_refl _⟩
  · simp [Value.cells] at e3
    obtain ⟨rfl, rfl, rfl⟩ := e3
    have hk' : ∀ i, i < n → ∃ v : Jb, v.In W ∧ ad.block < W.heap.size ∧ (∀ j u, v.cells[j]? = some u → W.cell? ((ad.add (i * 4)).add j) = some u) := by
      intro i hi
      have hg := hk i hi
      have hil : i < elems.length := by omega
      rw [List.getElem?_eq_getElem hil, job_cells] at hg
      obtain ⟨ci, hc1, hc2⟩ := Option.bind_eq_some_iff.1 hg
      obtain ⟨j, rfl, hj⟩ := trod_job (fun k hk2 => hw k (by
        injection e5 with e5 _
        rw [e5]
        simp only [DataW.weights, Try.underlying68]
        refine List.mem_cons_of_mem _ (List.mem_append_left _ (weights_all (d := elems[i].1) ?_ hk2))
        exact List.mem_map_of_mem (List.getElem_mem hil))) hc2
      obtain ⟨_, hc3, hc4⟩ := World.cells?_some hc1
      have hb := World.block_lt_of_cell? W _ ((hc4 0 (by omega)).trans (List.getElem?_eq_getElem (by simp [Jb.cells])))
      rw [add_block, add_block] at hb
      refine ⟨j, hj, hb, fun q u hu => ?_⟩
      rw [hc4 q (by have := getElem?_lt hu; simpa [Jb.cells] using this)]
      exact hu
    obtain ⟨q, hq⟩ := @row_of Jb ⟨⟨none, [], 0, fun _ => [], ⟨#[]⟩, 0, 0⟩⟩ _ _ hk'
    have hlen : ((List.range n).map q).length = n := by simp
    have hgl : ∀ i, i < n → ((List.range n).map q)[i]? = some (q i) := fun i hi => by simp [hi]
    refine ⟨(List.range n).map q, hlen, fun j hj => ?_, ⟨?_, fun hn => ⟨ad, rfl, (hq 0 hn).2.1, fun i u hu => ?_⟩⟩, hlc⟩
    · obtain ⟨i, hi, rfl⟩ := List.mem_map.1 hj
      exact (hq i (List.mem_range.1 hi)).1
    · rw [jb_len, hlen]
    · have hi := getElem?_lt hu
      have hcl : (((List.range n).map q).flatMap Jb.cells).length = n * 4 := by rw [jb_len, hlen]
      rw [hcl] at hi
      have hd : i / 4 < n := by omega
      have hm : i % 4 < 4 := Nat.mod_lt _ (by omega)
      obtain ⟨v, hv⟩ : ∃ v, (q (i / 4)).cells[i % 4]? = some v := ⟨_, List.getElem?_eq_getElem (by simpa [Jb.cells] using hm)⟩
      have h1 := jb_get (hgl _ hd) hv
      rw [show i / 4 * 4 + i % 4 = i by omega, hu] at h1
      cases h1
      have h2 := (hq _ hd).2.2 _ _ hv
      rw [add_add'] at h2
      rw [show i = i / 4 * 4 + i % 4 by omega]
      exact h2
end Go.Proofs.Ytlamphneimpdlaa
