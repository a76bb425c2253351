/- How a grammar that came in is opened. -/
import Derived.Test.YtndhbdbfjkmloaaDoorEx4
import Derived.Test.YtndhbdbfjkmloaaDoorGrM
namespace Go.Proofs.YtndhbdbfjkmloaaDoor
open Go.ChangeShapes Go.WideShapes Go.ChangeAt Go.RowKit

/-- all numbers of an expression are of their width -/
inductive WfE : Ex → Prop
  | mk (k a b c d : Int) (t : ByteArray) (ks : List Ex) : I64 k → U64 a → U64 b → U64 c → U64 d → (∀ e ∈ ks, WfE e) → WfE (.mk k a b c d t ks)

set_option maxRecDepth 100000 in
theorem trod_exw {H : Type} {enc : TypeId × Value → H} {W : World} : ∀ (fuel : Nat) {cs : List Value} {x : DataW H × List MemPlace},
    DataW.trod enc Tryd.prog W 0 (fun _ => true) true fuel 27 cs = some x → ∃ e, ExIs W W.heap.size e cs ∧ WfE e := by
  intro fuel
  induction fuel using Nat.strongRecOn with
  | _ fuel ih =>
    intro cs x h
    obtain ⟨u, hu, hf⟩ := Option.map_eq_some_iff.1 ex_fields
    match u, hf with
    | .struct fs, hf =>
      obtain ⟨xs, n, rfl, _, hl, hlen, hget⟩ := DataW.trod_struct hu h
      rw [ex_cells] at hl
      have hf' : fs.toList.map (fun f => (f.type, f.offset)) = [(3, 0), (24, 1), (9, 5), (25, 6)] := hf
      have hfl : fs.toList.length = 4 := by have := congrArg List.length hf'; simpa using this
      have at_ : ∀ (i : Nat) (t o : Nat), [(3, 0), (24, 1), (9, 5), (25, 6)][i]? = some (t, o) → ∃ y, DataW.trod enc Tryd.prog W 0 (fun _ => true) true n t ((cs.drop o).take (Tryd.prog.cellsOf t)) = some y := by
        intro i t o hi
        rw [← hf', List.getElem?_map, Option.map_eq_some_iff] at hi
        obtain ⟨f, hf1, hf2⟩ := hi
        have hg := hget i f (by simpa using hf1)
        injection hf2 with e1 e2
        subst e1 e2
        have : i < xs.length := by
          have h3 := getElem?_lt hf1
          rw [hfl] at h3
          have h4 : fs.size = 4 := by simpa using hfl
          rw [hlen, h4]
          exact h3
        rw [List.getElem?_eq_getElem this] at hg
        exact ⟨_, hg⟩
      obtain ⟨y0, h0⟩ := at_ 0 _ _ rfl
      obtain ⟨y1, h1⟩ := at_ 1 _ _ rfl
      obtain ⟨y2, h2⟩ := at_ 2 _ _ rfl
      obtain ⟨y3, h3⟩ := at_ 3 _ _ rfl
      rw [show Tryd.prog.cellsOf 3 = 1 from by kernel_rfl] at h0
      rw [show Tryd.prog.cellsOf 24 = 4 from by kernel_rfl] at h1
      rw [show Tryd.prog.cellsOf 9 = 1 from by kernel_rfl] at h2
      rw [show Tryd.prog.cellsOf 25 = 1 from by kernel_rfl] at h3
      obtain ⟨k, e0, _, wk⟩ := DataW.trod_int Tryd.underlying3 h0
      obtain ⟨a, b, c, d, e1, wa, wb, wc, wd⟩ := trod_set Tryd.underlying24 Tryd.underlying22 (by kernel_rfl) (by kernel_rfl) h1
      obtain ⟨t, e2, _, wt⟩ := DataW.trod_string Tryd.underlying9 h2
      have wk' := I64_of_wf wk
      obtain ⟨c0, c1, c2, c3, c4, c5, c6, rfl⟩ := seven_of hl
      simp at e0 e1 e2
      subst e0 e2
      obtain ⟨rfl, rfl, rfl, rfl⟩ := e1
      rcases DataW.trod_slice Tryd.underlying25 h3 with ⟨e3, _⟩ | ⟨ad, len, cap, elems, rest, m, e4, e3, _, _, hlc, hcm, hel, hk, _⟩
      · simp at e3
        subst e3
        exact ⟨.mk k a b c d t [], .mk k a b c d t [] none 0 (fun _ => []) wt (by simp) (by unfold maxLen; omega) (fun _ => rfl) (fun h => by simp at h) (fun i e h => by simp at h) (fun i e ad h => by simp at h), .mk _ _ _ _ _ _ _ wk' wa wb wc wd (fun e he => by cases he)⟩
      · simp at e3
        subst e3
        have hk' : ∀ i, i < len → ∃ r : Ex × List Value, (ExIs W W.heap.size r.1 r.2 ∧ WfE r.1) ∧ ad.block < W.heap.size ∧ ∀ j u, r.2[j]? = some u → W.cell? ((ad.add (i * 7)).add j) = some u := by
          intro i hi
          have hg := hk i hi
          rw [List.getElem?_eq_getElem (by omega), ex_cells] at hg
          obtain ⟨ci, hc1, hc2⟩ := Option.bind_eq_some_iff.1 hg
          obtain ⟨e, he⟩ := ih m (by omega) hc2
          obtain ⟨_, hc3, hc4⟩ := World.cells?_some hc1
          have hb := World.block_lt_of_cell? W _ ((hc4 0 (by omega)).trans (List.getElem?_eq_getElem (by omega)))
          rw [add_block, add_block] at hb
          refine ⟨(e, ci), he, hb, fun j u hu => ?_⟩
          rw [hc4 j (by have := getElem?_lt hu; simp at this; omega)]
          exact hu
        obtain ⟨f, hf⟩ := @row_of (Ex × List Value) ⟨(.mk 0 0 0 0 0 ⟨#[]⟩ [], [])⟩ _ _ hk'
        have hlen' : ((List.range len).map fun i => (f i).1).length = len := by simp
        have hget : ∀ i e, ((List.range len).map fun i => (f i).1)[i]? = some e → i < len ∧ e = (f i).1 := by
          intro i e he
          have hi := getElem?_lt he
          rw [hlen'] at hi
          simp [hi] at he
          exact ⟨hi, he.symm⟩
        have hx := ExIs.mk (w := W) (B := W.heap.size) k a b c d t ((List.range len).map fun i => (f i).1) (some ad) cap (fun i => (f i).2) wt (by rw [hlen']; exact hlc) hcm (fun h => by cases h)
          (fun h => ⟨ad, rfl, (hf 0 (by rw [hlen'] at h; exact h)).2.1⟩) (fun i e he => by obtain ⟨hi, rfl⟩ := hget i e he; exact (hf i hi).1.1)
          (fun i e ad' he hA j u hu => by obtain ⟨hi, rfl⟩ := hget i e he; injection hA with hA; subst hA; exact (hf i hi).2.2 j u hu)
        rw [hlen'] at hx
        refine ⟨_, hx, .mk _ _ _ _ _ _ _ wk' wa wb wc wd fun e he => ?_⟩
        obtain ⟨i, hi⟩ := List.getElem?_of_mem he
        obtain ⟨hi', rfl⟩ := hget i e hi
        exact (hf i hi').1.2

theorem rule_fields : (Tryd.prog.underlying 71).map (fun u => match u with | .struct fs => fs.toList.map (fun f => (f.type, f.offset)) | _ => []) = some [(9, 0), (27, 1)] := by kernel_rfl
theorem rule_cells : Tryd.prog.cellsOf 71 = 8 := by kernel_rfl
theorem gram_fields : (Tryd.prog.underlying 39).map (fun u => match u with | .struct fs => fs.toList.map (fun f => (f.type, f.offset)) | _ => []) = some [(37, 0)] := by kernel_rfl
theorem gram_cells : Tryd.prog.cellsOf 39 = 1 := by kernel_rfl

set_option maxRecDepth 100000 in
theorem trod_rule {H : Type} {enc : TypeId × Value → H} {W : World} {fuel : Nat} {cs : List Value} {x : DataW H × List MemPlace}
    (h : DataW.trod enc Tryd.prog W 0 (fun _ => true) true fuel 71 cs = some x) : ∃ (r : Rl) (row : List Value), cs = .string r.1 :: row ∧ r.1.size ≤ maxLen ∧ ExIs W W.heap.size r.2 row ∧ WfE r.2 := by
  obtain ⟨u, hu, hf⟩ := Option.map_eq_some_iff.1 rule_fields
  match u, hf with
  | .struct fs, hf =>
    obtain ⟨xs, n, rfl, _, hl, hlen, hget⟩ := DataW.trod_struct hu h
    rw [rule_cells] at hl
    have hf' : fs.toList.map (fun f => (f.type, f.offset)) = [(9, 0), (27, 1)] := hf
    have hfl : fs.toList.length = 2 := by have := congrArg List.length hf'; simpa using this
    have at_ : ∀ (i : Nat) (t o : Nat), [(9, 0), (27, 1)][i]? = some (t, o) → ∃ y, DataW.trod enc Tryd.prog W 0 (fun _ => true) true n t ((cs.drop o).take (Tryd.prog.cellsOf t)) = some y := by
      intro i t o hi
      rw [← hf', List.getElem?_map, Option.map_eq_some_iff] at hi
      obtain ⟨f, hf1, hf2⟩ := hi
      have hg := hget i f (by simpa using hf1)
      injection hf2 with e1 e2
      subst e1 e2
      have : i < xs.length := by
        have h3 := getElem?_lt hf1
        rw [hfl] at h3
        have h4 : fs.size = 2 := by simpa using hfl
        rw [hlen, h4]
        exact h3
      rw [List.getElem?_eq_getElem this] at hg
      exact ⟨_, hg⟩
    obtain ⟨y0, h0⟩ := at_ 0 _ _ rfl
    obtain ⟨y1, h1⟩ := at_ 1 _ _ rfl
    rw [show Tryd.prog.cellsOf 9 = 1 from by kernel_rfl] at h0
    rw [ex_cells] at h1
    obtain ⟨s, e0, _, wt⟩ := DataW.trod_string Tryd.underlying9 h0
    obtain ⟨e, he, hw⟩ := trod_exw _ h1
    obtain ⟨c0, c1, c2, c3, c4, c5, c6, c7, rfl⟩ := eight_of hl
    simp at e0
    subst e0
    exact ⟨(s, e), _, rfl, wt, he, hw⟩
set_option maxRecDepth 100000 in
theorem open_gram {H : Type} {enc : TypeId × Value → H} {W : World} {v : Value} {d : DataW H} {p : List MemPlace} (hv : ∃ cs, v = .agg cs ∧ cs.size = Tryd.prog.cellsOf 39)
    (h : DataW.Trod enc Tryd.prog W 0 (fun _ => true) true 39 v d p) :
    ∃ (g : List Rl) (A : Option Addr) (cp : Nat) (row : Nat → List Value), v = .agg #[.slice A g.length cp] ∧ GrIs W W.heap.size g A cp row ∧ ∀ r ∈ g, WfE r.2 := by
  obtain ⟨ca, rfl, hsize⟩ := hv
  obtain ⟨fuel, h⟩ := h
  obtain ⟨u, hu, hf⟩ := Option.map_eq_some_iff.1 gram_fields
  match u, hf with
  | .struct fs, hf =>
    obtain ⟨xs, n, rfl, _, hl, hlen, hget⟩ := DataW.trod_struct hu h
    rw [gram_cells] at hl hsize
    have hf' : fs.toList.map (fun f => (f.type, f.offset)) = [(37, 0)] := hf
    have hfl : fs.toList.length = 1 := by have := congrArg List.length hf'; simpa using this
    match hfs : fs.toList, hf', hfl with
    | [f], hf', hfl =>
      simp only [List.map_cons, List.map_nil, List.cons.injEq, Prod.mk.injEq, and_true] at hf'
      have hg := hget 0 f (by
        have : fs.toList[0]? = some f := by rw [hfs]; rfl
        simpa using this)
      have hfsz : fs.size = 1 := by have := congrArg List.length hfs; simpa using this
      have : 0 < xs.length := by rw [hlen, hfsz]; omega
      rw [List.getElem?_eq_getElem this, hf'.1, hf'.2] at hg
      rw [show Tryd.prog.cellsOf 37 = 1 from by kernel_rfl] at hg
      have hcs : ∃ c0, ca = #[c0] := by
        match ca, hsize with
        | ⟨[c0]⟩, _ => exact ⟨c0, rfl⟩
      obtain ⟨c0, rfl⟩ := hcs
      have hcl : (Value.agg #[c0]).cells.toList = [c0] := rfl
      rw [hcl] at hg
      rcases DataW.trod_slice Tryd.underlying37 hg with ⟨e3, _⟩ | ⟨ad, len, cap, elems, rest, m, e4, e3, _, _, hlc, hcm, hel, hk, _⟩
      · simp at e3
        subst e3
        exact ⟨[], none, 0, fun _ => [], rfl, ⟨by simp, by unfold maxLen; omega, fun _ => rfl, fun h => by simp at h, fun i r h => by simp at h, fun i r h => by simp at h, fun i r ad h => by simp at h, fun i r ad h => by simp at h⟩, fun r h => by cases h⟩
      · simp at e3
        subst e3
        have hk' : ∀ i, i < len → ∃ r : Rl × List Value, (r.1.1.size ≤ maxLen ∧ ExIs W W.heap.size r.1.2 r.2 ∧ WfE r.1.2) ∧ ad.block < W.heap.size ∧ W.cell? (ad.add (i * 8)) = some (.string r.1.1) ∧ ∀ j u, r.2[j]? = some u → W.cell? ((ad.add (i * 8)).add (j + 1)) = some u := by
          intro i hi
          have hg := hk i hi
          rw [List.getElem?_eq_getElem (by omega), rule_cells] at hg
          obtain ⟨ci, hc1, hc2⟩ := Option.bind_eq_some_iff.1 hg
          obtain ⟨r, row, rfl, he⟩ := trod_rule hc2
          obtain ⟨hcl, hc3, hc4⟩ := World.cells?_some hc1
          have hb := World.block_lt_of_cell? W _ ((hc4 0 (by omega)).trans (List.getElem?_eq_getElem (by simp)))
          rw [add_block, add_block] at hb
          refine ⟨(r, row), he, hb, (hc4 0 (by omega)).trans rfl, fun j u hu => ?_⟩
          have h8 : row.length = 7 := by simpa using hc3
          rw [hc4 (j + 1) (by have : j < row.length := getElem?_lt hu; omega)]
          exact hu
        obtain ⟨f, hf⟩ := @row_of (Rl × List Value) ⟨((⟨#[]⟩, .mk 0 0 0 0 0 ⟨#[]⟩ []), [])⟩ _ _ hk'
        have hlen' : ((List.range len).map fun i => (f i).1).length = len := by simp
        have hget : ∀ i e, ((List.range len).map fun i => (f i).1)[i]? = some e → i < len ∧ e = (f i).1 := by
          intro i e he
          have hi := getElem?_lt he
          rw [hlen'] at hi
          simp [hi] at he
          exact ⟨hi, he.symm⟩
        refine ⟨(List.range len).map fun i => (f i).1, some ad, cap, fun i => (f i).2, by rw [hlen'], ⟨by rw [hlen']; exact hlc, hcm, fun h => (by cases h), fun h => ⟨ad, rfl, (hf 0 (by rw [hlen'] at h; exact h)).2.1⟩, fun i r hr => ?_, fun i r hr => ?_, fun i r ad' hr hA => ?_, fun i r ad' hr hA j u hu => ?_⟩, fun r hr => ?_⟩
        · obtain ⟨hi, rfl⟩ := hget i r hr; exact (hf i hi).1.1
        · obtain ⟨hi, rfl⟩ := hget i r hr; exact (hf i hi).1.2.1
        · obtain ⟨hi, rfl⟩ := hget i r hr; injection hA with hA; subst hA; exact (hf i hi).2.2.1
        · obtain ⟨hi, rfl⟩ := hget i r hr; injection hA with hA; subst hA; exact (hf i hi).2.2.2 j u hu
        · obtain ⟨i, hi⟩ := List.getElem?_of_mem hr
          obtain ⟨hi', rfl⟩ := hget i r hi
          exact (hf i hi').1.2.2
end Go.Proofs.YtndhbdbfjkmloaaDoor
