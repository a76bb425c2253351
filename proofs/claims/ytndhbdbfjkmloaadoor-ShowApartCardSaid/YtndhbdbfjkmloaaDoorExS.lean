/- How long a grammar that came in may be; an expression that came in, with its numbers' widths. -/
import Derived.Test.YtndhbdbfjkmloaaDoorExO
namespace Go.Proofs.YtndhbdbfjkmloaaDoor
open Go.ChangeShapes Go.WideShapes Go.ChangeAt Go.RowKit

theorem open_exw {H : Type} {enc : TypeId × Value → H} {W : World} {v : Value} {d : DataW H} {p : List MemPlace} (h : DataW.Trod enc Tryd.prog W 0 (fun _ => true) true 27 v d p) :
    ∃ e cs, v = .agg cs.toArray ∧ ExIs W W.heap.size e cs ∧ WfE e := by
  obtain ⟨fuel, hf⟩ := h
  obtain ⟨e, he, hw⟩ := trod_exw fuel hf
  refine ⟨e, _, agg_of_cells rfl ?_, he, hw⟩
  generalize v.cells.toList = cs at he
  cases he
  simp
theorem rule_bytes : Tryd.prog.bytesOf 71 = 96 := by kernel_rfl
set_option maxRecDepth 100000 in
theorem gram_small {H : Type} {enc : TypeId × Value → H} {W : World} {A : Option Addr} {n cp : Nat} {d : DataW H} {p : List MemPlace} (hw : ∀ k ∈ d.weights Tryd.prog 39, k ≤ reachBytes)
    (h : DataW.Trod enc Tryd.prog W 0 (fun _ => true) true 39 (.agg #[.slice A n cp]) d p) : n ≤ 1466015503690 := by
  obtain ⟨fuel, h⟩ := h
  obtain ⟨u, hu, hf⟩ := Option.map_eq_some_iff.1 gram_fields
  match u, hf with
  | .struct fs, hf =>
    obtain ⟨xs, m, rfl, hx, hl, hlen, hget⟩ := DataW.trod_struct hu h
    have hf' : fs.toList.map (fun f => (f.type, f.offset)) = [(37, 0)] := hf
    have hfl : fs.toList.length = 1 := by have := congrArg List.length hf'; simpa using this
    match hfs : fs.toList, hf', hfl with
    | [f], hf', hfl =>
      simp only [List.map_cons, List.map_nil, List.cons.injEq, Prod.mk.injEq, and_true] at hf'
      have hg := hget 0 f (by
        have : fs.toList[0]? = some f := by rw [hfs]; rfl
        simpa using this)
      have hfsz : fs.size = 1 := by have := congrArg List.length hfs; simpa using this
      obtain ⟨x0, rfl⟩ : ∃ x0, xs = [x0] := List.length_eq_one_iff.1 (by omega)
      rw [hf'.1, hf'.2] at hg
      rw [show Tryd.prog.cellsOf 37 = 1 from by kernel_rfl] at hg
      have hcl : (Value.agg #[.slice A n cp]).cells.toList = [.slice A n cp] := rfl
      rw [hcl] at hg
      simp only [List.drop_zero, List.take_succ_cons, List.take_zero, List.getElem?_cons_zero] at hg
      simp only [Prod.mk.injEq] at hx
      rcases DataW.trod_slice Tryd.underlying37 hg with ⟨e3, _⟩ | ⟨ad, len, cap, elems, rest, m, e4, e3, hx0, _, hlc, hcm, hel, hk, _⟩
      · simp at e3
        omega
      · simp at e3
        obtain ⟨_, rfl, _⟩ := e3
        have hd : d = .agg [.slice (elems.map (·.1)) (rest.map (·.1))] := by rw [hx.1, hx0]; rfl
        subst hd
        have := hw ((elems.length + rest.length) * 96) (by
          simp only [DataW.weights, hu, hfs, List.map_cons, List.map_nil, DataW.weightsEach, hf'.1, Tryd.underlying37, rule_bytes]
          simp)
        unfold reachBytes at this
        omega
end Go.Proofs.YtndhbdbfjkmloaaDoor
