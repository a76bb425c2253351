/- mutate, plain: what one node may be turned into, all that an expression may be, the mutants of a grammar. -/
import Derived.Test.YtefechceoeeonaaSiS
import Derived.Test.YtefechceoeeonaaKdM
namespace Go.Proofs.Ytefechceoeeonaa

def nilE : Ex := .mk 0 0 0 0 0 ⟨#[]⟩ []
/-- two neighbours changed -/
def swapK (ks : List Ex) (i : Nat) : List Ex := (ks.set i (ks.getD (i + 1) nilE)).set (i + 1) (ks.getD i nilE)
/-- one kid less -/
def lessK (k : Int) (ks : List Ex) (i : Nat) : Ex := if ks.length = 2 then ks.getD (1 - i) nilE else ofN k (ks.eraseIdx i)
/-- all that a node may be in its place -/
def turnsE : Ex → List Ex
  | .mk k a b c d _ ks =>
    if k = 2 then [.mk 2 (notU a) (notU b) (notU c) (notU d) ⟨#[]⟩ []]
    else if k = 5 ∨ k = 6 then (List.range ks.length).map (lessK k ks) ++ (if k = 6 then (List.range (ks.length - 1)).map (fun i => ofN k (swapK ks i)) else [])
    else if k = 7 ∨ k = 9 then [ks.getD 0 nilE]
    else if k = 8 then [ofN 7 ks]
    else if k = 10 then [ofN 11 ks]
    else if k = 11 then [ofN 10 ks]
    else []
mutual
/-- all that an expression may be with one node turned -/
def allE : Ex → List Ex
  | .mk k a b c d t ks => turnsE (.mk k a b c d t ks) ++ allEs k ks ks 0
def allEs (k : Int) (full : List Ex) : List Ex → Nat → List Ex
  | [], _ => []
  | e :: es, i => (allE e).map (fun x => ofN k (full.set i x)) ++ allEs k full es (i + 1)
end
/-- another body for rule i -/
def putB : List Rl → Nat → Ex → List Rl
  | [], _, _ => []
  | r :: g, 0, x => (r.1, x) :: g
  | r :: g, i + 1, x => r :: putB g i x
def mutFrom (g : List Rl) : List Rl → Nat → List (List Rl)
  | [], _ => []
  | r :: rs, i => ((allE r.2).map (fun x => putB g i x)).filter (fun m => (wellG m).2 = 0) ++ mutFrom g rs (i + 1)
/-- the mutants of a grammar -/
def mutG (g : List Rl) : List (List Rl) := mutFrom g g 0

/-! how many there are -/
theorem turns_len (k a b c d : Int) (t : ByteArray) (ks : List Ex) : (turnsE (.mk k a b c d t ks)).length ≤ 2 * ks.length + 1 := by
  rw [turnsE]
  split
  · simp
  split
  · rw [List.length_append, List.length_map, List.length_range]
    split
    · rw [List.length_map, List.length_range]; omega
    · simp; omega
  repeat' split
  all_goals simp
mutual
theorem all_len : ∀ e : Ex, (allE e).length + 2 ≤ 3 * nodes e
  | .mk k a b c d t ks => by
    have h1 := turns_len k a b c d t ks
    have h2 := alls_len k ks ks 0
    rw [allE, List.length_append, nodes]
    omega
theorem alls_len (k : Int) (full : List Ex) : ∀ (ks : List Ex) (i : Nat), (allEs k full ks i).length + 2 * ks.length ≤ 3 * nodesAll ks
  | [], _ => by simp [allEs]
  | e :: es, i => by
    have h1 := all_len e
    have h2 := alls_len k full es (i + 1)
    rw [allEs, List.length_append, List.length_map, nodesAll, List.length_cons]
    omega
end
theorem mutFrom_len (g : List Rl) : ∀ (l : List Rl) (i : Nat), (mutFrom g l i).length ≤ 3 * (l.map fun r => nodes r.2).sum
  | [], _ => by simp [mutFrom]
  | r :: rs, i => by
    have h1 := all_len r.2
    have h2 := mutFrom_len g rs (i + 1)
    have h3 := List.length_filter_le (fun m => decide ((wellG m).2 = 0)) ((allE r.2).map (fun x => putB g i x))
    rw [List.length_map] at h3
    rw [mutFrom, List.length_append, List.map_cons, List.sum_cons]
    omega
theorem mut_len (g : List Rl) : (mutG g).length ≤ 3 * (g.map fun r => nodes r.2).sum := mutFrom_len g g 0

/-! another body for one rule -/
theorem putB_len : ∀ (g : List Rl) (i : Nat) (x : Ex), (putB g i x).length = g.length
  | [], _, _ => rfl
  | _ :: _, 0, _ => rfl
  | _ :: g, i + 1, x => by rw [putB, List.length_cons, putB_len g i x, List.length_cons]
theorem putB_at : ∀ (g : List Rl) (i : Nat) (x : Ex) (j : Nat), (putB g i x)[j]? = (g[j]?).map fun r => (r.1, if j = i then x else r.2)
  | [], _, _, _ => by simp [putB]
  | r :: g, 0, x, 0 => by simp [putB]
  | r :: g, 0, x, j + 1 => by
    simp only [putB, List.getElem?_cons_succ, Nat.add_eq_zero_iff, Nat.one_ne_zero, and_false, if_false]
    cases g[j]? <;> rfl
  | r :: g, i + 1, x, 0 => by simp [putB]
  | r :: g, i + 1, x, j + 1 => by
    simp only [putB, List.getElem?_cons_succ]
    rw [putB_at g i x j]
    simp only [Nat.add_right_cancel_iff]
theorem mutFrom_mem (g : List Rl) : ∀ (l : List Rl) (i : Nat) (m : List Rl), m ∈ mutFrom g l i → (wellG m).2 = 0 ∧ ∃ j x, m = putB g j x
  | [], _, _, h => by simp [mutFrom] at h
  | r :: rs, i, m, h => by
    rw [mutFrom, List.mem_append] at h
    rcases h with h | h
    · rw [List.mem_filter] at h
      obtain ⟨x, _, rfl⟩ := List.mem_map.1 h.1
      exact ⟨of_decide_eq_true h.2, i, x, rfl⟩
    · exact mutFrom_mem g rs (i + 1) m h
/-- a mutant is well, and other in one rule at most -/
theorem mut_mem {g m : List Rl} (h : m ∈ mutG g) : (wellG m).2 = 0 ∧ m.length = g.length ∧ ∃ i, ∀ (j : Nat) (r : Rl), g[j]? = some r → ∃ y, m[j]? = some (r.1, y) ∧ (j ≠ i → y = r.2) := by
  obtain ⟨h1, i, x, rfl⟩ := mutFrom_mem g g 0 m h
  refine ⟨h1, putB_len g i x, i, fun j r hr => ⟨_, by rw [putB_at, hr]; rfl, fun hj => if_neg hj⟩⟩

/-! no node has more than eight kids -/
theorem nil_k8 : K8 nilE := .mk _ _ _ _ _ _ _ (by simp) (fun e he => by cases he)
theorem getD_k8 {ks : List Ex} (h : ∀ e ∈ ks, K8 e) (i : Nat) : K8 (ks.getD i nilE) := by
  rw [List.getD_eq_getElem?_getD]
  cases hi : ks[i]? with
  | none => exact nil_k8
  | some x => exact h x (List.mem_of_getElem? hi)
theorem ofN_k8 {k : Int} {ks : List Ex} (h : ks.length ≤ 8) (hk : ∀ e ∈ ks, K8 e) : K8 (ofN k ks) := .mk _ _ _ _ _ _ _ h hk
theorem set_mem {ks : List Ex} {i : Nat} {x y : Ex} (h : y ∈ ks.set i x) : y = x ∨ y ∈ ks := by
  rcases List.mem_or_eq_of_mem_set h with h | h
  · exact .inr h
  · exact .inl h
theorem turns_k8 {e : Ex} (h : K8 e) : ∀ x ∈ turnsE e, K8 x := by
  cases h with
  | mk k a b c d t ks hl hk =>
    intro x hx
    rw [turnsE] at hx
    split at hx
    · rw [List.mem_singleton.1 hx]
      exact .mk _ _ _ _ _ _ _ (by simp) (fun e he => by cases he)
    split at hx
    · rcases List.mem_append.1 hx with hx | hx
      · obtain ⟨i, _, rfl⟩ := List.mem_map.1 hx
        unfold lessK
        split
        · exact getD_k8 hk _
        · exact ofN_k8 (by have := List.length_eraseIdx_le ks i; omega) fun e he => hk e (List.mem_of_mem_eraseIdx he)
      · split at hx
        · obtain ⟨i, _, rfl⟩ := List.mem_map.1 hx
          refine ofN_k8 (by unfold swapK; simp; omega) fun e he => ?_
          unfold swapK at he
          rcases set_mem he with rfl | he
          · exact getD_k8 hk _
          · rcases set_mem he with rfl | he
            · exact getD_k8 hk _
            · exact hk e he
        · cases hx
    split at hx
    · rw [List.mem_singleton.1 hx]; exact getD_k8 hk _
    split at hx
    · rw [List.mem_singleton.1 hx]; exact ofN_k8 hl hk
    split at hx
    · rw [List.mem_singleton.1 hx]; exact ofN_k8 hl hk
    split at hx
    · rw [List.mem_singleton.1 hx]; exact ofN_k8 hl hk
    · cases hx
mutual
theorem all_k8 : ∀ (e : Ex), K8 e → ∀ x ∈ allE e, K8 x
  | .mk k a b c d t ks, h, x, hx => by
    rw [allE, List.mem_append] at hx
    rcases hx with hx | hx
    · exact turns_k8 h x hx
    · cases h with
      | mk _ _ _ _ _ _ _ hl hk => exact alls_k8 k ks hl hk ks 0 hk x hx
theorem alls_k8 (k : Int) (full : List Ex) (hl : full.length ≤ 8) (hf : ∀ e ∈ full, K8 e) : ∀ (ks : List Ex) (i : Nat), (∀ e ∈ ks, K8 e) → ∀ x ∈ allEs k full ks i, K8 x
  | [], _, _, x, hx => by simp [allEs] at hx
  | e :: es, i, hk, x, hx => by
    rw [allEs, List.mem_append] at hx
    rcases hx with hx | hx
    · obtain ⟨y, hy, rfl⟩ := List.mem_map.1 hx
      refine ofN_k8 (by simp; omega) fun z hz => ?_
      rcases set_mem hz with rfl | hz
      · exact all_k8 e (hk e (by simp)) _ hy
      · exact hf z hz
    · exact alls_k8 k full hl hf es (i + 1) (fun z hz => hk z (by simp [hz])) x hx
end
end Go.Proofs.Ytefechceoeeonaa
