/- How deep an expression is: plain. -/
import Derived.Test.YtkmcnekjimobhaaGK
namespace Go.Proofs.Ytkmcnekjimobhaa

mutual
/-- how deep an expression is -/
def hE : Ex → Nat
  | .mk _ _ _ _ _ _ ks => 1 + hS ks
def hS : List Ex → Nat
  | [] => 0
  | e :: es => max (hE e) (hS es)
end
theorem hS_mem : ∀ {ks : List Ex} {e : Ex}, e ∈ ks → hE e ≤ hS ks
  | [], e, h => by cases h
  | x :: xs, e, h => by
    rw [hS]
    rcases List.mem_cons.1 h with rfl | h
    · exact Nat.le_max_left _ _
    · exact Nat.le_trans (hS_mem h) (Nat.le_max_right _ _)
theorem hS_le {N : Nat} : ∀ {ks : List Ex}, (∀ e ∈ ks, hE e ≤ N) → hS ks ≤ N
  | [], _ => Nat.zero_le _
  | e :: es, h => by
    rw [hS]
    exact Nat.max_le.2 ⟨h e (by simp), hS_le fun x hx => h x (by simp [hx])⟩
theorem looks_deep {m : Nat} : ∀ (ks : List Ex) (n : Nat), (looks ks n m).1 = 0 → ∀ e ∈ ks, ∃ n', (lookN e n' m).1 = 0
  | [], _, _ => fun e he => by cases he
  | e :: es, n, h => fun e' he' => by
    unfold looks at h
    split at h
    · rename_i h0
      rcases List.mem_cons.1 he' with rfl | he'
      · exact ⟨_, h0⟩
      · exact looks_deep es _ h e' he'
    · rename_i h0
      exact absurd h h0
theorem look_deep (e : Ex) : ∀ n m, (lookN e n m).1 = 0 → m + hE e ≤ 13 := by
  refine Ex.ind (P := fun e => ∀ n m, (lookN e n m).1 = 0 → m + hE e ≤ 13) ?_ e
  intro k a b c d t ks ih n m h
  unfold lookN at h
  split at h
  · simp at h
  split at h
  · simp at h
  rename_i h12
  split at h
  · simp at h
  · have hk := looks_deep ks _ h
    have : hS ks ≤ 12 - m := hS_le fun e he => by
      obtain ⟨n', hn⟩ := hk e he
      have := ih e he n' (m + 1) hn
      omega
    rw [hE]
    omega
theorem check_deep {e : Ex} (h : checkE e = 0) : hE e ≤ 12 := by
  have := look_deep e 0 1 h
  omega

end Go.Proofs.Ytkmcnekjimobhaa
