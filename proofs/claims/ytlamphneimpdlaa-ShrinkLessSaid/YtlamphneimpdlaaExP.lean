/- How a predicate that came in is opened. -/
import Derived.Test.YtlamphneimpdlaaGF
namespace Go.Proofs.Ytlamphneimpdlaa
open Go.ChangeShapes Go.WideShapes Go.ChangeAt Go.RowKit

theorem pred_fields : (Try.prog.underlying 81).map (fun u => match u with | .struct fs => fs.toList.map (fun f => (f.type, f.offset)) | _ => []) = some [(3, 0), (24, 1), (24, 2)] := by kernel_rfl
theorem pred_cells : Try.prog.cellsOf 81 = 3 := by kernel_rfl
set_option maxRecDepth 100000 in
theorem open_pred {H : Type} {enc : TypeId × Value → H} {W : World} {v : Value} {d : DataW H} {p : List MemPlace} (hv : ∃ cs, v = .agg cs ∧ cs.size = Try.prog.cellsOf 81)
    (h : DataW.Trod enc Try.prog W 0 (fun _ => true) true 81 v d p) :
    ∃ (k : Int) (g h : List Rl) (A A' : Option Addr) (cp cp' : Nat) (row row' : Nat → List Value), v = .agg #[.int .i64 k, .slice A g.length cp, .slice A' h.length cp'] ∧ I64 k ∧ GrIs W W.heap.size g A cp row ∧ (∀ r ∈ g, WfE r.2) ∧ GrIs W W.heap.size h A' cp' row' ∧ ∀ r ∈ h, WfE r.2 := by
  obtain ⟨ca, rfl, hsize⟩ := hv
  obtain ⟨fuel, h⟩ := h
  obtain ⟨u, hu, hf⟩ := Option.map_eq_some_iff.1 pred_fields
  match u, hf with
  | .struct fs, hf =>
    obtain ⟨xs, n, rfl, _, hl, hlen, hget⟩ := DataW.trod_struct hu h
    rw [pred_cells] at hl hsize
    have hf' : fs.toList.map (fun f => (f.type, f.offset)) = [(3, 0), (24, 1), (24, 2)] := hf
    have hfl : fs.toList.length = 3 := by have := congrArg List.length hf'; simpa using this
    have hcs : ∃ c0 c1 c2, ca = #[c0, c1, c2] := by
      match ca, hsize with
      | ⟨[c0, c1, c2]⟩, _ => exact ⟨c0, c1, c2, rfl⟩
    obtain ⟨c0, c1, c2, rfl⟩ := hcs
    have hcl : (Value.agg #[c0, c1, c2]).cells.toList = [c0, c1, c2] := rfl
    rw [hcl] at hget
    have at_ : ∀ (i : Nat) (t o : Nat), [(3, 0), (24, 1), (24, 2)][i]? = some (t, o) → ∃ y, DataW.trod enc Try.prog W 0 (fun _ => true) true n t (([c0, c1, c2].drop o).take (Try.prog.cellsOf t)) = some y := by
      intro i t o hi
      rw [← hf', List.getElem?_map, Option.map_eq_some_iff] at hi
      obtain ⟨f, hf1, hf2⟩ := hi
      have hg := hget i f (by simpa using hf1)
      injection hf2 with e1 e2
      subst e1 e2
      have : i < xs.length := by have h3 := getElem?_lt hf1; rw [hfl] at h3; have h4 : fs.size = 3 := by simpa using hfl
                                 rw [hlen, h4]; exact h3
      rw [List.getElem?_eq_getElem this] at hg
      exact ⟨_, hg⟩
    obtain ⟨y0, h0⟩ := at_ 0 _ _ rfl
    obtain ⟨⟨d1, p1⟩, h1⟩ := at_ 1 _ _ rfl
    obtain ⟨⟨d2, p2⟩, h2⟩ := at_ 2 _ _ rfl
    rw [show Try.prog.cellsOf 3 = 1 from by kernel_rfl] at h0
    rw [gram_cells] at h1 h2
    obtain ⟨k, e0, _, wk⟩ := DataW.trod_int Try.underlying3 h0
    simp at e0
    subst e0
    obtain ⟨g, A, cp, row, e1, hg, hwg⟩ := open_gram (v := .agg #[c1]) ⟨#[c1], rfl, by rw [gram_cells]; rfl⟩ ⟨n, h1⟩
    obtain ⟨g', A', cp', row', e2, hg', hwg'⟩ := open_gram (v := .agg #[c2]) ⟨#[c2], rfl, by rw [gram_cells]; rfl⟩ ⟨n, h2⟩
    simp at e1 e2
    subst e1 e2
    exact ⟨k, g, g', A, A', cp, cp', row, row', rfl, I64_of_wf wk, hg, hwg, hg', hwg'⟩
end Go.Proofs.Ytlamphneimpdlaa
