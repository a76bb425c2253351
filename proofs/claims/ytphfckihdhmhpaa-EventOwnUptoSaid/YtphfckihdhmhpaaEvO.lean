/- How a list of events that came in is opened, with the numbers' bounds. -/
import Derived.Test.YtphfckihdhmhpaaTr5
import Derived.Test.YtphfckihdhmhpaaGE
namespace Go.Proofs.Ytphfckihdhmhpaa
open Go.ChangeShapes Go.WideShapes Go.ChangeAt Go.RowKit

theorem ev_fields : (Try.prog.underlying 81).map (fun u => match u with | .struct fs => fs.toList.map (fun f => (f.type, f.offset)) | _ => []) = some [(3, 0), (3, 1), (3, 2)] := by kernel_rfl
theorem ev_cells : Try.prog.cellsOf 81 = 3 := by kernel_rfl

set_option maxRecDepth 100000 in
theorem trod_ev {H : Type} {enc : TypeId × Value → H} {W : World} {fuel : Nat} {cs : List Value} {x : DataW H × List MemPlace} (h : DataW.trod enc Try.prog W 0 (fun _ => true) true fuel 81 cs = some x) :
    (∃ k r a, cs = [.int .i64 k, .int .i64 r, .int .i64 a] ∧ I64 r ∧ I64 a) ∧ 1 ≤ Rows.uptoBulk x.1 := by
  obtain ⟨u, hu, hf⟩ := Option.map_eq_some_iff.1 ev_fields
  match u, hf with
  | .struct fs, hf =>
    obtain ⟨xs, n, rfl, rfl, hl, hlen, hget⟩ := DataW.trod_struct hu h
    rw [ev_cells] at hl
    have hf' : fs.toList.map (fun f => (f.type, f.offset)) = [(3, 0), (3, 1), (3, 2)] := hf
    have hfl : fs.toList.length = 3 := by have := congrArg List.length hf'; simpa using this
    have hfs : fs.size = 3 := by simpa using hfl
    have hxl : xs.length = 3 := by rw [hlen, hfs]
    match xs, hxl with
    | [y0, y1, y2], _ =>
    have at_ : ∀ (i : Nat) (t o : Nat), [(3, 0), (3, 1), (3, 2)][i]? = some (t, o) → DataW.trod enc Try.prog W 0 (fun _ => true) true n t ((cs.drop o).take (Try.prog.cellsOf t)) = [y0, y1, y2][i]? := by
      intro i t o hi
      rw [← hf', List.getElem?_map, Option.map_eq_some_iff] at hi
      obtain ⟨f, hf1, hf2⟩ := hi
      have hg := hget i f (by simpa using hf1)
      injection hf2 with e1 e2
      subst e1 e2
      exact hg
    have h0 := at_ 0 _ _ rfl
    have h1 := at_ 1 _ _ rfl
    have h2 := at_ 2 _ _ rfl
    rw [show Try.prog.cellsOf 3 = 1 from by kernel_rfl] at h0 h1 h2
    obtain ⟨r, e0, _, _⟩ := DataW.trod_int Try.underlying3 h0
    obtain ⟨f, e1, _, wf1⟩ := DataW.trod_int Try.underlying3 h1
    obtain ⟨g, e2, _, wf2⟩ := DataW.trod_int Try.underlying3 h2
    match cs, hl with
    | [c0, c1, c2], _ =>
      simp at e0 e1 e2
      subst e0 e1 e2
      exact ⟨⟨_, _, _, rfl, I64_of_wf wf1, I64_of_wf wf2⟩, by simp only [Rows.uptoBulk]; omega⟩

theorem bulk_len {H : Type} : ∀ (ds : List (DataW H)), (∀ d ∈ ds, 1 ≤ Rows.uptoBulk d) → ds.length ≤ Rows.uptoBulkAll ds
  | [], _ => by simp
  | d :: ds, h => by
    have h1 := h d (by simp)
    have h2 := bulk_len ds (fun d hd => h d (by simp [hd]))
    simp only [List.length_cons, Rows.uptoBulkAll]
    omega

theorem evCells_range (f : Nat → Ev) (n : Nat) (j : Nat) (u : Value) (h : (evCells ((List.range n).map f))[j]? = some u) : j / 3 < n ∧ [Value.int .i64 (f (j / 3)).1, .int .i64 (f (j / 3)).2.1, .int .i64 (f (j / 3)).2.2][j % 3]? = some u := by
  have hj := getElem?_lt h
  rw [evCells_len] at hj
  simp at hj
  have hd : j / 3 < n := by omega
  refine ⟨hd, ?_⟩
  have hm : j % 3 < 3 := Nat.mod_lt _ (by omega)
  have hg : ((List.range n).map f)[j / 3]? = some (f (j / 3)) := by simp [hd]
  obtain ⟨x, hx⟩ : ∃ x, [Value.int .i64 (f (j / 3)).1, .int .i64 (f (j / 3)).2.1, .int .i64 (f (j / 3)).2.2][j % 3]? = some x := ⟨_, List.getElem?_eq_getElem (by simpa using hm)⟩
  have := evCells_get _ _ _ hg (j % 3) x hx
  rw [show j / 3 * 3 + j % 3 = j from by omega, h] at this
  rw [hx, this]

theorem open_evsw {H : Type} {enc : TypeId × Value → H} {W : World} {A : Option Addr} {n c : Nat} {d : DataW H} {p : List MemPlace} (h : DataW.Trod enc Try.prog W 0 (fun _ => true) true 57 (.slice A n c) d p) :
    ∃ l, Reads W W.heap.size 3 A n (evCells l) ∧ (∀ v ∈ l, I64 v.2.1 ∧ I64 v.2.2) ∧ n ≤ Rows.uptoBulk d ∧ (A = none → c = 0) ∧ n ≤ c := by
  obtain ⟨fuel, hf⟩ := h
  rcases DataW.trod_slice Try.underlying57 hf with ⟨e3, _⟩ | ⟨ad, len, cap, elems, rest, m, e4, e3, e5, _, hlc, hcm, hel, hk, _⟩
  · simp [Value.cells] at e3
    obtain ⟨rfl, rfl, rfl⟩ := e3
    exact ⟨[], Reads.none_, fun v h => (by cases h), Nat.zero_le _, fun _ => rfl, Nat.le_refl _⟩
  · simp [Value.cells] at e3
    obtain ⟨rfl, rfl, rfl⟩ := e3
    have hk' : ∀ i, i < n → ∃ v : Ev, (I64 v.2.1 ∧ I64 v.2.2) ∧ ad.block < W.heap.size ∧ (∀ j u, [Value.int .i64 v.1, .int .i64 v.2.1, .int .i64 v.2.2][j]? = some u → W.cell? ((ad.add (i * 3)).add j) = some u) ∧ ∀ d, (elems.map (·.1))[i]? = some d → 1 ≤ Rows.uptoBulk d := by
      intro i hi
      have hg := hk i hi
      rw [List.getElem?_eq_getElem (by omega), ev_cells] at hg
      obtain ⟨ci, hc1, hc2⟩ := Option.bind_eq_some_iff.1 hg
      obtain ⟨⟨k, r, a, rfl, hi1, hi2⟩, hen⟩ := trod_ev hc2
      obtain ⟨_, hc3, hc4⟩ := World.cells?_some hc1
      have hb := World.block_lt_of_cell? W _ ((hc4 0 (by omega)).trans (List.getElem?_eq_getElem (by simp)))
      rw [add_block, add_block] at hb
      refine ⟨(k, r, a), ⟨hi1, hi2⟩, hb, fun j u hu => ?_, fun d hd => ?_⟩
      · rw [hc4 j (by have := getElem?_lt hu; simpa using this)]
        exact hu
      · rw [List.getElem?_map, List.getElem?_eq_getElem (by omega)] at hd
        injection hd with hd
        rw [← hd]
        exact hen
    obtain ⟨q, hq⟩ := @tr_row Ev ⟨(0, 0, 0)⟩ _ _ hk'
    refine ⟨(List.range n).map q, ⟨by rw [evCells_len]; simp, fun hn => ⟨ad, rfl, (hq 0 hn).2.1, fun j u hu => ?_⟩⟩, fun v hv => (by obtain ⟨i, hi, rfl⟩ := List.mem_map.1 hv; exact (hq i (List.mem_range.1 hi)).1), ?_, (fun h => by cases h), hlc⟩
    · obtain ⟨h1, h2⟩ := evCells_range q n j u hu
      have := (hq _ h1).2.2.1 _ _ h2
      rw [add_add'] at this
      rw [show j = j / 3 * 3 + j % 3 from by omega]
      exact this
    · injection e5 with e5 _
      rw [e5]
      simp only [Rows.uptoBulk]
      have := bulk_len (elems.map (·.1)) fun d hd => by
        obtain ⟨i, hi, he⟩ := List.getElem_of_mem hd
        have hi' : i < n := by simpa [hel] using hi
        exact (hq i hi').2.2.2 d (by rw [List.getElem?_eq_getElem hi, he])
      simp at this
      omega
end Go.Proofs.Ytphfckihdhmhpaa
