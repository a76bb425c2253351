/- Which kinds of expressions stand in one: chaffkeep.kinds; with fewer kinds there is none of three; plain facts for KernelPlain. -/
import Derived.Test.YtlamphneimpdlaaKnP
import Derived.Test.YtlamphneimpdlaaSmB
import Derived.Test.YtlamphneimpdlaaQSpg
import Derived.Deep.DeepCutAuto
namespace Go.Proofs.Ytlamphneimpdlaa
open Go.RowKit

mutual
/-- is there a node of one of three kinds? -/
def kindsE : Ex → Bool
  | .mk k _ _ _ _ _ ks => decide (k = 8 ∨ k = 9 ∨ k = 10) || kindsEs ks
def kindsEs : List Ex → Bool
  | [] => false
  | e :: es => kindsE e || kindsEs es
end
theorem kindsEs_false : ∀ {ks : List Ex}, kindsEs ks = false ↔ ∀ e ∈ ks, kindsE e = false
  | [] => by simp [kindsEs]
  | e :: es => by
    rw [kindsEs, Bool.or_eq_false_iff, kindsEs_false]
    simp
theorem kinds_ker {e : Ex} (h : Fit1 e) : kindsE (kerE e) = false := by
  induction h with
  | mk k a b c d t ks hl h1 _ ih =>
    have hks : kindsEs (ks.map kerE) = false := kindsEs_false.2 fun x hx => by obtain ⟨y, hy, rfl⟩ := List.mem_map.1 hx; exact ih y hy
    rw [kerE, kerEs_map]
    split
    · rename_i h8
      have := h1 (.inl h8)
      cases ks with
      | nil => simp at this
      | cons x l =>
        have hx := ih x (by simp)
        simp [ofN, kindsE, kindsEs, hx]
    split
    · rename_i h8
      have := h1 (.inr h8)
      cases ks with
      | nil => simp at this
      | cons x l =>
        have hx := ih x (by simp)
        simp [ofN, kindsE, kindsEs, hx]
    split
    · simp [ofN, kindsE, kindsEs, hks]
    · rename_i a1 a2 a3
      rw [kindsE, hks]
      simp [a1, a2, a3]
/-- what has none of the three stays -/
theorem ker_stay (e : Ex) : kindsE e = false → kerE e = e := by
  refine Ex.ind (P := fun e => kindsE e = false → kerE e = e) ?_ e
  intro k a b c d t ks ih h
  rw [kindsE, Bool.or_eq_false_iff] at h
  obtain ⟨h1, h2⟩ := h
  have h3 := kindsEs_false.1 h2
  simp at h1
  rw [kerE, if_neg h1.1, if_neg h1.2.1, if_neg h1.2.2, kerEs_map]
  congr 1
  rw [List.map_congr_left (g := fun x => x) fun x hx => ih x hx (h3 x hx)]
  exact List.map_id' ks
theorem cntS_nodes : ∀ (ks : List Ex) (n : Nat), (∀ e ∈ ks, cntE e ≤ nodes e) → cntS ks n ≤ n + nodesAll ks
  | [], n, _ => by rw [cntS]; omega
  | e :: es, n, h => by
    have h1 := h e (by simp)
    have h2 := cntS_nodes es (min (n + cntE e) 400) fun e he => h e (by simp [he])
    rw [cntS, nodesAll]
    omega
theorem cnt_nodes (e : Ex) : kindsE e = false → cntE e ≤ nodes e := by
  refine Ex.ind (P := fun e => kindsE e = false → cntE e ≤ nodes e) ?_ e
  intro k a b c d t ks ih h
  rw [kindsE, Bool.or_eq_false_iff] at h
  obtain ⟨h1, h2⟩ := h
  have h3 := kindsEs_false.1 h2
  simp at h1
  have h4 := cntS_nodes ks 0 fun e he => ih e he (h3 e he)
  rw [cntE, if_neg h1.1, if_neg (by omega), nodes]
  omega
/-- made once more it is the same -/
theorem ker_twice {g : List Rl} (h0 : checkG g = 0) (h1 : checkG (kerG g) = 0) : kerR (kerG g) = 0 ∧ kerG (kerG g) = kerG g := by
  have R := right_of h0
  have R1 := right_of h1
  have hk : ∀ r ∈ kerG g, kindsE r.2 = false := fun r hr => by
    obtain ⟨r0, h0, rfl⟩ := List.mem_map.1 hr
    exact kinds_ker (Fit1.of_rt (R.rt r0 h0))
  constructor
  · unfold kerR
    rw [if_neg (by rw [h1]; decide), if_neg]
    have hs : ∀ l : List Rl, (∀ r ∈ l, kindsE r.2 = false) → (l.map fun r => cntE r.2).sum ≤ (l.map fun r => nodes r.2).sum := by
      intro l
      induction l with
      | nil => intro _; exact Nat.le_refl _
      | cons r l ih =>
        intro h
        rw [List.map_cons, List.map_cons, List.sum_cons, List.sum_cons]
        have := cnt_nodes r.2 (h r (by simp))
        have := ih fun r hr => h r (by simp [hr])
        omega
    have := hs _ hk
    have := R1.nodes
    unfold cntG
    omega
  · unfold kerG at hk ⊢
    rw [List.map_map]
    refine List.map_congr_left fun r hr => ?_
    show (r.1, kerE (kerE r.2)) = (r.1, kerE r.2)
    rw [ker_stay _ (kinds_ker (Fit1.of_rt (R.rt r hr)))]
end Go.Proofs.Ytlamphneimpdlaa
