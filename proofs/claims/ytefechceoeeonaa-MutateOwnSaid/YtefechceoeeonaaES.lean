/- How long a grammar that came in may be; an expression that came in, with its numbers' widths. -/
import Derived.Test.YtefechceoeeonaaGF
import Derived.Test.YtefechceoeeonaaRA
namespace Go.Proofs.Ytefechceoeeonaa
open Go.ChangeShapes Go.WideShapes Go.ChangeAt Go.RowKit

theorem open_exw {H : Type} {enc : TypeId × Value → H} {W : World} {v : Value} {d : DataW H} {p : List MemPlace} (h : DataW.Trod enc Try.prog W 0 (fun _ => true) true 38 v d p) :
    ∃ e cs, v = .agg cs.toArray ∧ ExIs W W.heap.size e cs ∧ WfE e := by
  obtain ⟨fuel, hf⟩ := h
  obtain ⟨e, he, hw⟩ := trod_exw fuel hf
  refine ⟨e, _, agg_of_cells rfl ?_, he, hw⟩
  generalize v.cells.toList = cs at he
  cases he
  simp
theorem rule_bytes : Try.prog.bytesOf 44 = 96 := by kernel_rfl
set_option maxRecDepth 100000 in
theorem gram_small {H : Type} {enc : TypeId × Value → H} {W : World} {A : Option Addr} {n cp : Nat} {d : DataW H} {p : List MemPlace} (hw : ∀ k ∈ d.weights Try.prog 24, k ≤ reachBytes)
    (h : DataW.Trod enc Try.prog W 0 (fun _ => true) true 24 (.agg #[.slice A n cp]) d p) : n ≤ 1466015503690 := by
  obtain ⟨fuel, h⟩ := h
  obtain ⟨u, hu, hf⟩ := Option.map_eq_some_iff.1 gram_fields
  match u, hf with
  | .struct fs, hf =>
    obtain ⟨xs, m, rfl, hx, hl, hlen, hget⟩ := DataW.trod_struct hu h
    have hf' : fs.toList.map (fun f => (f.type, f.offset)) = [(22, 0)] := hf
    have hfl : fs.toList.length = 1 := by have := congrArg List.length hf'; simpa using this
    match hfs : fs.toList, hf', hfl with
    | [f], hf', hfl =>
      simp only [List.map_cons, List.map_nil, List.cons.injEq, Prod.mk.injEq, and_true] at hf'
      have hg := hget 0 f (by have : fs.toList[0]? = some f := by rw [hfs]; rfl
                              simpa using this)
      have hfsz : fs.size = 1 := by have := congrArg List.length hfs; simpa using this
      obtain ⟨x0, rfl⟩ : ∃ x0, xs = [x0] := List.length_eq_one_iff.1 (by omega)
      rw [hf'.1, hf'.2] at hg
      rw [show Try.prog.cellsOf 22 = 1 from by kernel_rfl] at hg
      have hcl : (Value.agg #[.slice A n cp]).cells.toList = [.slice A n cp] := rfl
      rw [hcl] at hg
      simp only [List.drop_zero, List.take_succ_cons, List.take_zero, List.getElem?_cons_zero] at hg
      simp only [Prod.mk.injEq] at hx
      rcases DataW.trod_slice Try.underlying22 hg with ⟨e3, _⟩ | ⟨ad, len, cap, elems, rest, m, e4, e3, hx0, _, hlc, hcm, hel, hk, _⟩
      · simp at e3
        omega
      · simp at e3
        obtain ⟨_, rfl, _⟩ := e3
        have hd : d = .agg [.slice (elems.map (·.1)) (rest.map (·.1))] := by rw [hx.1, hx0]; rfl
        subst hd
        have := hw ((elems.length + rest.length) * 96) (by
          simp only [DataW.weights, hu, hfs, List.map_cons, List.map_nil, DataW.weightsEach, hf'.1, Try.underlying22, rule_bytes]
          simp)
        unfold reachBytes at this
        omega
end Go.Proofs.Ytefechceoeeonaa

/- A grammar that came in has no node with too many kids. -/
namespace Go.Proofs.Ytefechceoeeonaa
open Go.ChangeShapes Go.WideShapes Go.ChangeAt Go.RowKit

theorem expr_bytes : Try.prog.bytesOf 38 = 80 := by kernel_rfl
theorem weights_in {H : Type} {P : Program} {e : TypeId} : ∀ {l : List (DataW H)} {d : DataW H}, d ∈ l → ∀ {n}, n ∈ d.weights P e → n ∈ DataW.weightsAll P e l
  | x :: l, d, hd, n, hn => by
    simp only [DataW.weightsAll, List.mem_append]
    rcases List.mem_cons.1 hd with rfl | h
    · exact .inl hn
    · exact .inr (weights_in h hn)
theorem rows_eq {W : World} {q : Addr} {r ci : List Value} (h : r.length = ci.length) (h1 : ∀ j u, r[j]? = some u → W.cell? (q.add j) = some u) (h2 : ∀ j, j < ci.length → W.cell? (q.add j) = ci[j]?) : r = ci := by
  refine List.ext_getElem? fun j => ?_
  by_cases hj : j < r.length
  · rw [← h2 j (by omega), h1 j _ (List.getElem?_eq_getElem hj), List.getElem?_eq_getElem hj]
  · rw [List.getElem?_eq_none (by omega), List.getElem?_eq_none (by omega)]

set_option maxRecDepth 100000 in
theorem sm_ex {H : Type} {enc : TypeId × Value → H} {W : World} : ∀ (fuel : Nat) {cs : List Value} {x : DataW H × List MemPlace},
    DataW.trod enc Try.prog W 0 (fun _ => true) true fuel 38 cs = some x → (∀ n ∈ x.1.weights Try.prog 38, n ≤ reachBytes) → ∀ e, ExIs W W.heap.size e cs → SmE e := by
  intro fuel
  induction fuel using Nat.strongRecOn with
  | _ fuel ih =>
    intro cs x h hw e hE
    obtain ⟨u, hu, hf⟩ := Option.map_eq_some_iff.1 ex_fields
    match u, hf with
    | .struct fs, hf =>
      obtain ⟨xs, n, rfl, hx, hl, hlen, hget⟩ := DataW.trod_struct hu h
      have hf' : fs.toList.map (fun f => (f.type, f.offset)) = [(3, 0), (35, 1), (9, 5), (36, 6)] := hf
      have hfl : fs.toList.length = 4 := by have := congrArg List.length hf'; simpa using this
      have hfs : fs.size = 4 := by simpa using hfl
      have hft : fs.toList.map (·.type) = [3, 35, 9, 36] := by
        have := congrArg (List.map Prod.fst) hf'
        simpa [List.map_map, Function.comp_def] using this
      have hxl : xs.length = 4 := by rw [hlen, hfs]
      match xs, hxl with
      | [y0, y1, y2, y3], _ =>
      have h3 : DataW.trod enc Try.prog W 0 (fun _ => true) true n 36 ((cs.drop 6).take (Try.prog.cellsOf 36)) = some y3 := by
        have hi : (fs.toList.map (fun f => (f.type, f.offset)))[3]? = some (36, 6) := by rw [hf']; rfl
        rw [List.getElem?_map, Option.map_eq_some_iff] at hi
        obtain ⟨f, hf1, hf2⟩ := hi
        have hg := hget 3 f (by simpa using hf1)
        injection hf2 with e1 e2
        rw [e1, e2] at hg
        exact hg
      rw [show Try.prog.cellsOf 36 = 1 from by kernel_rfl] at h3
      have hw3 : ∀ m ∈ y3.1.weights Try.prog 36, m ≤ reachBytes := fun m hm => hw m (by
        rw [hx]
        simp only [List.map_cons, List.map_nil, DataW.weights, hu, hft, DataW.weightsEach]
        simp [hm])
      cases hE with
      | mk k a b c d t ks A cp row ht hlk hm hnone hb hr hc =>
      simp only [List.drop_succ_cons, List.drop_zero, List.take_succ_cons, List.take_zero] at h3
      rcases DataW.trod_slice Try.underlying36 h3 with ⟨e3, _⟩ | ⟨ad, len, cap, elems, rest, m, e4, e3, hx0, _, hlc, hcm, hel, hk, _⟩
      · simp at e3
        obtain ⟨_, h0, _⟩ := e3
        have hk0 : ks = [] := by first | exact h0 | exact List.length_eq_zero_iff.1 h0
        subst hk0
        exact .mk _ _ _ _ _ _ _ (by simp) (fun e he => by cases he)
      · simp at e3
        obtain ⟨rfl, hlen2, _⟩ := e3
        refine .mk _ _ _ _ _ _ _ ?_ ?_
        · have := hw3 ((elems.length + rest.length) * 80) (by
            rw [hx0]
            simp only [DataW.weights, Try.underlying36, expr_bytes]
            simp)
          unfold reachBytes at this
          omega
        · intro e he
          obtain ⟨i, hi⟩ := List.getElem?_of_mem he
          have hil := getElem?_lt hi
          have hg := hk i (by omega)
          have hie : i < elems.length := by omega
          rw [List.getElem?_eq_getElem hie, ex_cells] at hg
          obtain ⟨ci, hc1, hc2⟩ := Option.bind_eq_some_iff.1 hg
          obtain ⟨_, hc3, hc4⟩ := World.cells?_some hc1
          have hrow := hr i e hi
          have h7 := ex_len hrow
          have heq : row i = ci := rows_eq (by omega) (hc i e ad hi rfl) fun j hj => hc4 j (by omega)
          refine ih m (by omega) hc2 (fun q hq => hw3 q ?_) e (heq ▸ hrow)
          rw [hx0]
          simp only [DataW.weights, Try.underlying36]
          refine List.mem_cons_of_mem _ (List.mem_append_left _ (weights_in (d := elems[i].1) ?_ hq))
          exact List.mem_map_of_mem (List.getElem_mem hie)

set_option maxRecDepth 100000 in
theorem sm_rule {H : Type} {enc : TypeId × Value → H} {W : World} {fuel : Nat} {cs : List Value} {x : DataW H × List MemPlace}
    (h : DataW.trod enc Try.prog W 0 (fun _ => true) true fuel 44 cs = some x) (hw : ∀ n ∈ x.1.weights Try.prog 44, n ≤ reachBytes) (e : Ex) (hE : ExIs W W.heap.size e (cs.drop 1)) : SmE e := by
  obtain ⟨u, hu, hf⟩ := Option.map_eq_some_iff.1 rule_fields
  match u, hf with
  | .struct fs, hf =>
    obtain ⟨xs, n, rfl, hx, hl, hlen, hget⟩ := DataW.trod_struct hu h
    have hf' : fs.toList.map (fun f => (f.type, f.offset)) = [(9, 0), (38, 1)] := hf
    have hfl : fs.toList.length = 2 := by have := congrArg List.length hf'; simpa using this
    have hfs : fs.size = 2 := by simpa using hfl
    have hft : fs.toList.map (·.type) = [9, 38] := by
      have := congrArg (List.map Prod.fst) hf'
      simpa [List.map_map, Function.comp_def] using this
    have hxl : xs.length = 2 := by rw [hlen, hfs]
    match xs, hxl with
    | [y0, y1], _ =>
    have h1 : DataW.trod enc Try.prog W 0 (fun _ => true) true n 38 ((cs.drop 1).take (Try.prog.cellsOf 38)) = some y1 := by
      have hi : (fs.toList.map (fun f => (f.type, f.offset)))[1]? = some (38, 1) := by rw [hf']; rfl
      rw [List.getElem?_map, Option.map_eq_some_iff] at hi
      obtain ⟨f, hf1, hf2⟩ := hi
      have hg := hget 1 f (by simpa using hf1)
      injection hf2 with e1 e2
      rw [e1, e2] at hg
      exact hg
    have h7 := ex_len hE
    rw [ex_cells, List.take_of_length_le (by omega)] at h1
    refine sm_ex n h1 (fun m hm => hw m ?_) e hE
    rw [hx]
    simp only [List.map_cons, List.map_nil, DataW.weights, hu, hft, DataW.weightsEach]
    simp [hm]

set_option maxRecDepth 100000 in
theorem gram_sm {H : Type} {enc : TypeId × Value → H} {W : World} {g : List Rl} {A : Option Addr} {cp : Nat} {row : Nat → List Value} {d : DataW H} {p : List MemPlace} (hw : ∀ k ∈ d.weights Try.prog 24, k ≤ reachBytes)
    (h : DataW.Trod enc Try.prog W 0 (fun _ => true) true 24 (.agg #[.slice A g.length cp]) d p) (hG : GrIs W W.heap.size g A cp row) : SmG g := by
  refine ⟨gram_small hw h, fun r hr => ?_⟩
  obtain ⟨fuel, h⟩ := h
  obtain ⟨u, hu, hf⟩ := Option.map_eq_some_iff.1 gram_fields
  match u, hf with
  | .struct fs, hf =>
    obtain ⟨xs, m, rfl, hx, hl, hlen, hget⟩ := DataW.trod_struct hu h
    have hf' : fs.toList.map (fun f => (f.type, f.offset)) = [(22, 0)] := hf
    have hfl : fs.toList.length = 1 := by have := congrArg List.length hf'; simpa using this
    have hfs : fs.size = 1 := by simpa using hfl
    have hft : fs.toList.map (·.type) = [22] := by
      have := congrArg (List.map Prod.fst) hf'
      simpa [List.map_map, Function.comp_def] using this
    have hxl : xs.length = 1 := by rw [hlen, hfs]
    match xs, hxl with
    | [y0], _ =>
    have h0 : DataW.trod enc Try.prog W 0 (fun _ => true) true m 22 (((Value.agg #[.slice A g.length cp]).cells.toList.drop 0).take (Try.prog.cellsOf 22)) = some y0 := by
      have hi : (fs.toList.map (fun f => (f.type, f.offset)))[0]? = some (22, 0) := by rw [hf']; rfl
      rw [List.getElem?_map, Option.map_eq_some_iff] at hi
      obtain ⟨f, hf1, hf2⟩ := hi
      have hg := hget 0 f (by simpa using hf1)
      injection hf2 with e1 e2
      rw [e1, e2] at hg
      exact hg
    rw [show Try.prog.cellsOf 22 = 1 from by kernel_rfl, show (Value.agg #[.slice A g.length cp]).cells.toList = [.slice A g.length cp] from rfl] at h0
    simp only [List.drop_zero, List.take_succ_cons, List.take_zero] at h0
    have hw0 : ∀ k ∈ y0.1.weights Try.prog 22, k ≤ reachBytes := fun k hk => hw k (by
      simp only [Prod.mk.injEq] at hx
      rw [hx.1]
      simp only [List.map_cons, List.map_nil, DataW.weights, hu, hft, DataW.weightsEach]
      simp [hk])
    rcases DataW.trod_slice Try.underlying22 h0 with ⟨e3, _⟩ | ⟨ad, len, cap, elems, rest, q, e4, e3, hx0, _, hlc, hcm, hel, hk, _⟩
    · simp at e3
      obtain ⟨_, h0, _⟩ := e3
      have hk0 : g = [] := by first | exact h0 | exact List.length_eq_zero_iff.1 h0
      subst hk0
      cases hr
    · simp at e3
      obtain ⟨rfl, hlen2, _⟩ := e3
      obtain ⟨i, hi⟩ := List.getElem?_of_mem hr
      have hil := getElem?_lt hi
      have hg := hk i (by omega)
      have hie : i < elems.length := by omega
      rw [List.getElem?_eq_getElem hie, rule_cells] at hg
      obtain ⟨ci, hc1, hc2⟩ := Option.bind_eq_some_iff.1 hg
      obtain ⟨_, hc3, hc4⟩ := World.cells?_some hc1
      have hrow := hG.body i r hi
      have h7 := ex_len hrow
      have heq : Value.string r.1 :: row i = ci := rows_eq (q := ad.add (i * 8)) (by simp; omega) (fun j v hv => by
        match j, hv with
        | 0, hv => simp at hv; rw [← hv]; exact hG.name i r ad hi rfl
        | j + 1, hv => exact hG.cell i r ad hi rfl j v (by simpa using hv)) fun j hj => hc4 j (by omega)
      refine sm_rule hc2 (fun z hz => hw0 z ?_) r.2 (by rw [← heq]; exact hrow)
      rw [hx0]
      simp only [DataW.weights, Try.underlying22]
      refine List.mem_cons_of_mem _ (List.mem_append_left _ (weights_in (d := elems[i].1) ?_ hz))
      exact List.mem_map_of_mem (List.getElem_mem hie)
end Go.Proofs.Ytefechceoeeonaa
