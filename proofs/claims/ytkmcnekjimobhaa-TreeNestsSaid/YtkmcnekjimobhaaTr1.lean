/- Trees in memory, and how one that came in is opened. -/
import Derived.Test.YtkmcnekjimobhaaRows
import Derived.Test.YtkmcnekjimobhaaGE
namespace Go.Proofs.Ytkmcnekjimobhaa
open Go.ChangeShapes Go.WideShapes Go.ChangeAt Go.RowKit

/-- a tree: rule, from, to, kids -/
inductive Tr where
  | mk (r f u : Int) (ks : List Tr)

theorem Tr.ind {P : Tr → Prop} (h : ∀ r f u ks, (∀ t ∈ ks, P t) → P (.mk r f u ks)) (t : Tr) : P t := by
  refine Tr.rec (motive_1 := P) (motive_2 := fun ks => ∀ e ∈ ks, P e) ?_ ?_ ?_ t
  · exact fun r f u ks ih => h r f u ks ih
  · exact fun e he => by cases he
  · intro e es h1 h2 e' he
    rcases List.mem_cons.1 he with rfl | he
    · exact h1
    · exact h2 _ he
mutual
def trNodes : Tr → Nat
  | .mk _ _ _ ks => 1 + trAll ks
def trAll : List Tr → Nat
  | [] => 0
  | t :: ts => trNodes t + trAll ts
end
theorem trAll_len : ∀ ks : List Tr, ks.length ≤ trAll ks
  | [] => by simp
  | .mk r f u ks' :: ks => by
    have := trAll_len ks
    simp only [trAll, trNodes, List.length_cons]
    omega
theorem trAll_mem : ∀ (ks : List Tr) (t : Tr), t ∈ ks → trNodes t ≤ trAll ks
  | [], t, h => by cases h
  | t' :: ks, t, h => by
    rw [trAll]
    rcases List.mem_cons.1 h with rfl | h
    · omega
    · have := trAll_mem ks t h
      omega

/-- the cells of a tree, and that all below it can be read in blocks of S -/
inductive TrIs (w : World) (S : Nat → Prop) : Tr → List Value → Prop
  | mk (r f u : Int) (ks : List Tr) (A : Option Addr) (cp : Nat) (row : Nat → List Value) :
      ks.length ≤ cp → cp ≤ maxLen → (0 < ks.length → ∃ ad : Addr, A = some ad ∧ S ad.block) →
      (∀ i t, ks[i]? = some t → TrIs w S t (row i)) →
      (∀ i t ad, ks[i]? = some t → A = some ad → ∀ j u, (row i)[j]? = some u → w.cell? ((ad.add (i * 4)).add j) = some u) →
      TrIs w S (.mk r f u ks) [.int .i64 r, .int .i64 f, .int .i64 u, .slice A ks.length cp]

theorem TrIs.keep {w w' : World} {S S' : Nat → Prop} {t : Tr} {cs : List Value} (h : TrIs w S t cs) (hS : ∀ b, S b → S' b) (hk : ∀ p : Addr, S p.block → w'.cell? p = w.cell? p) : TrIs w' S' t cs := by
  induction h with
  | mk r f u ks A cp row hl hm hb hr hc ih =>
    refine .mk r f u ks A cp row hl hm (fun h0 => ?_) ih fun i t ad ht hA j v hv => ?_
    · obtain ⟨ad, e, h1⟩ := hb h0
      exact ⟨ad, e, hS _ h1⟩
    · obtain ⟨ad', e', h1⟩ := hb (by have := getElem?_lt ht; omega)
      rw [hA] at e'
      injection e' with e'
      subst e'
      rw [hk _ (by rw [add_block, add_block]; exact h1)]
      exact hc i t ad ht hA j v hv
theorem TrIs.len {w : World} {S : Nat → Prop} {t : Tr} {cs : List Value} (h : TrIs w S t cs) : cs.length = 4 := by cases h; simp
theorem TrIs.on {w w' : World} {B B' : Nat} {t : Tr} {cs : List Value} (h : TrIs w (· < B) t cs) (hb : Below B w w') (hB : B ≤ B') : TrIs w' (· < B') t cs := h.keep (fun _ h => Nat.lt_of_lt_of_le h hB) fun _ hp => hb.cell hp

theorem tr_fields : (Try.prog.underlying 27).map (fun u => match u with | .struct fs => fs.toList.map (fun f => (f.type, f.offset)) | _ => []) = some [(3, 0), (3, 1), (3, 2), (25, 3)] := by kernel_rfl
theorem tr_cells : Try.prog.cellsOf 27 = 4 := by kernel_rfl

theorem tr_row {α : Type} [Inhabited α] {n : Nat} {p : Nat → α → Prop} (h : ∀ i, i < n → ∃ x, p i x) : ∃ f : Nat → α, ∀ i, i < n → p i (f i) := by
  have h' : ∀ i, ∃ x, i < n → p i x := fun i => by
    by_cases hi : i < n
    · obtain ⟨x, hx⟩ := h i hi
      exact ⟨x, fun _ => hx⟩
    · exact ⟨default, fun h => absurd h hi⟩
  exact ⟨fun i => (h' i).choose, fun i hi => (h' i).choose_spec hi⟩

theorem bulk_map {H : Type} : ∀ (ts : List Tr) (ds : List (DataW H)), ts.length = ds.length → (∀ (i : Nat) (t : Tr) (d : DataW H), ts[i]? = some t → ds[i]? = some d → trNodes t ≤ Rows.uptoBulk d) → trAll ts ≤ Rows.uptoBulkAll ds
  | [], _, _, _ => by simp [trAll]
  | t :: ts, [], h, _ => by simp at h
  | t :: ts, d :: ds, h, hi => by
    have h1 := hi 0 t d rfl rfl
    have h2 := bulk_map ts ds (by simpa using h) (fun i t' d' ht hd => hi (i + 1) t' d' (by simpa using ht) (by simpa using hd))
    rw [trAll, Rows.uptoBulkAll]
    omega

set_option maxRecDepth 100000 in
theorem trod_tree {H : Type} {enc : TypeId × Value → H} {W : World} : ∀ (fuel : Nat) {cs : List Value} {x : DataW H × List MemPlace},
    DataW.trod enc Try.prog W 0 (fun _ => true) true fuel 27 cs = some x → ∃ t, TrIs W (· < W.heap.size) t cs ∧ trNodes t ≤ Rows.uptoBulk x.1 := by
  intro fuel
  induction fuel using Nat.strongRecOn with
  | _ fuel ih =>
    intro cs x h
    obtain ⟨u, hu, hf⟩ := Option.map_eq_some_iff.1 tr_fields
    match u, hf with
    | .struct fs, hf =>
      obtain ⟨xs, n, rfl, rfl, hl, hlen, hget⟩ := DataW.trod_struct hu h
      rw [tr_cells] at hl
      have hf' : fs.toList.map (fun f => (f.type, f.offset)) = [(3, 0), (3, 1), (3, 2), (25, 3)] := hf
      have hfl : fs.toList.length = 4 := by have := congrArg List.length hf'; simpa using this
      have hfs : fs.size = 4 := by simpa using hfl
      have hxl : xs.length = 4 := by rw [hlen, hfs]
      match xs, hxl with
      | [y0, y1, y2, y3], _ =>
      have at_ : ∀ (i : Nat) (t o : Nat), [(3, 0), (3, 1), (3, 2), (25, 3)][i]? = some (t, o) → DataW.trod enc Try.prog W 0 (fun _ => true) true n t ((cs.drop o).take (Try.prog.cellsOf t)) = [y0, y1, y2, y3][i]? := by
        intro i t o hi
        rw [← hf', List.getElem?_map, Option.map_eq_some_iff] at hi
        obtain ⟨f, hf1, hf2⟩ := hi
        have hg := hget i f (by simpa using hf1)
        injection hf2 with e1 e2
        subst e1 e2
        exact hg
      have h0 := at_ 0 _ _ rfl
      have h1 := at_ 1 _ _ rfl
      have h2 := at_ 2 _ _ rfl
      have h3 := at_ 3 _ _ rfl
      rw [show Try.prog.cellsOf 3 = 1 from by kernel_rfl] at h0 h1 h2
      rw [show Try.prog.cellsOf 25 = 1 from by kernel_rfl] at h3
      obtain ⟨r, e0, _, _⟩ := DataW.trod_int Try.underlying3 h0
      obtain ⟨f, e1, _, _⟩ := DataW.trod_int Try.underlying3 h1
      obtain ⟨g, e2, _, _⟩ := DataW.trod_int Try.underlying3 h2
      match cs, hl with
      | [c0, c1, c2, c3], _ =>
        simp at e0 e1 e2
        subst e0 e1 e2
        have hbulk : ∀ m, m ≤ Rows.uptoBulk y3.1 → 1 + m ≤ Rows.uptoBulk (DataW.agg ([y0, y1, y2, y3].map (·.1))) := by
          intro m hm
          simp only [List.map, Rows.uptoBulk, Rows.uptoBulkAll]
          omega
        rcases DataW.trod_slice Try.underlying25 h3 with ⟨e3, _⟩ | ⟨ad, len, cap, elems, rest, m, e4, e3, e5, _, hlc, hcm, hel, hk, _⟩
        · simp at e3
          subst e3
          exact ⟨.mk r f g [], .mk r f g [] none 0 (fun _ => []) (by simp) (by unfold maxLen; omega) (fun h => by simp at h) (fun i e h => by simp at h) (fun i e ad h => by simp at h), by rw [trNodes, trAll]; exact hbulk 0 (Nat.zero_le _)⟩
        · simp at e3
          subst e3
          have hk' : ∀ i, i < len → ∃ r : Tr × List Value, TrIs W (· < W.heap.size) r.1 r.2 ∧ ad.block < W.heap.size ∧ (∀ j u, r.2[j]? = some u → W.cell? ((ad.add (i * 4)).add j) = some u) ∧ ∀ d, (elems.map (·.1))[i]? = some d → trNodes r.1 ≤ Rows.uptoBulk d := by
            intro i hi
            have hg := hk i hi
            rw [List.getElem?_eq_getElem (by omega), tr_cells] at hg
            obtain ⟨ci, hc1, hc2⟩ := Option.bind_eq_some_iff.1 hg
            obtain ⟨e, he, hen⟩ := ih m (by omega) hc2
            obtain ⟨_, hc3, hc4⟩ := World.cells?_some hc1
            have hb := World.block_lt_of_cell? W _ ((hc4 0 (by omega)).trans (List.getElem?_eq_getElem (by omega)))
            rw [add_block, add_block] at hb
            refine ⟨(e, ci), he, hb, fun j u hu => ?_, fun d hd => ?_⟩
            · rw [hc4 j (by have := getElem?_lt hu; simp at this; omega)]
              exact hu
            · rw [List.getElem?_map, List.getElem?_eq_getElem (by omega)] at hd
              injection hd with hd
              rw [← hd]
              exact hen
          obtain ⟨q, hq⟩ := @tr_row (Tr × List Value) ⟨(.mk 0 0 0 [], [])⟩ _ _ hk'
          have hlen' : ((List.range len).map fun i => (q i).1).length = len := by simp
          have hget' : ∀ i e, ((List.range len).map fun i => (q i).1)[i]? = some e → i < len ∧ e = (q i).1 := by
            intro i e he
            have hi := getElem?_lt he
            rw [hlen'] at hi
            simp [hi] at he
            exact ⟨hi, he.symm⟩
          have hx := TrIs.mk (w := W) (S := (· < W.heap.size)) r f g ((List.range len).map fun i => (q i).1) (some ad) cap (fun i => (q i).2) (by rw [hlen']; exact hlc) hcm
            (fun h => ⟨ad, rfl, (hq 0 (by rw [hlen'] at h; exact h)).2.1⟩) (fun i e he => by obtain ⟨hi, rfl⟩ := hget' i e he; exact (hq i hi).1)
            (fun i e ad' he hA j u hu => by obtain ⟨hi, rfl⟩ := hget' i e he; injection hA with hA; subst hA; exact (hq i hi).2.2.1 j u hu)
          rw [hlen'] at hx
          refine ⟨_, hx, ?_⟩
          rw [trNodes]
          refine hbulk _ ?_
          rw [e5]
          simp only [Rows.uptoBulk]
          have := bulk_map ((List.range len).map fun i => (q i).1) (elems.map (·.1)) (by simp; omega) (fun i t d ht hd => by obtain ⟨hi, rfl⟩ := hget' i t ht; exact (hq i hi).2.2.2 d hd)
          omega
end Go.Proofs.Ytkmcnekjimobhaa
