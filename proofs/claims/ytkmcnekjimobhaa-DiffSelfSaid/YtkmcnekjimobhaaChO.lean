/- A grammar that is right is checked as right. -/
import Derived.Test.YtkmcnekjimobhaaGK
namespace Go.Proofs.Ytkmcnekjimobhaa

theorem rt_refsC {g : List Rl} {e : Ex} (hr : Rt g e) : ∀ s, ((4 : Int), s) ∈ preE e → 0 ≤ fnd g s.data.toList := by
  induction hr with
  | mk k a b c d t ks _ h4 _ ih =>
    intro s hs
    rw [preE, List.mem_cons] at hs
    rcases hs with hs | hs
    · injection hs with e1 e2
      rw [e2]
      exact h4 e1.symm
    · have : ∀ l : List Ex, (∀ x ∈ l, x ∈ ks) → ((4 : Int), s) ∈ preEs l → 0 ≤ fnd g s.data.toList := by
        intro l
        induction l with
        | nil => intro _ h; rw [preEs] at h; cases h
        | cons x l ihl =>
          intro hm h
          rw [preEs, List.mem_append] at h
          rcases h with h | h
          · exact ih x (hm x (by simp)) s h
          · exact ihl (fun y hy => hm y (by simp [hy])) h
      exact this ks (fun x hx => hx) hs
theorem known1_yesC {g : List Rl} : ∀ {l : List ByteArray}, (∀ s ∈ l, 0 ≤ fnd g s.data.toList) → known1 g l = true
  | [], _ => by rw [known1]
  | x :: l, h => by
    rw [known1, if_neg (by have := h x (by simp); omega)]
    exact known1_yesC fun s hs => h s (by simp [hs])
theorem chk2_yesC {g : List Rl} : ∀ {l : List Rl}, (∀ r ∈ l, Rt g r.2) → chk2 g l = 0
  | [], _ => by rw [chk2]
  | r :: l, h => by
    have h1 : known1 g (refsC r.2) = true := known1_yesC fun s hs => by
      unfold refsC at hs
      split at hs
      · exact rt_refsC (h r (by simp)) s ((mem_refsE _ _).1 hs)
      · cases hs
    rw [chk2, if_neg (by rw [h1]; decide)]
    exact chk2_yesC fun r' hr' => h r' (by simp [hr'])
theorem chk1_yesC {g : List Rl} : ∀ {l : List Rl} {i all : Nat}, (∀ r ∈ l, nameB r.1.data.toList = true ∧ checkE r.2 = 0) → (∀ (j : Nat) (r : Rl), l[j]? = some r → fnd g r.1.data.toList = ((i + j : Nat) : Int)) → chk1 g l i all = (0, all + (l.map fun r => nodes r.2).sum)
  | [], i, all, _, _ => by simp [chk1]
  | x :: l, i, all, h1, h2 => by
    have := h2 0 x rfl
    rw [chk1, if_neg (by rw [(h1 x (by simp)).1]; decide), if_neg (by rw [this]; simp), if_neg (by rw [(h1 x (by simp)).2]; decide), chk1_yesC (fun r hr => h1 r (by simp [hr])) fun j r hr => by rw [h2 (j + 1) r (by simpa using hr)]; congr 1; omega]
    simp only [List.map_cons, List.sum_cons]
    rw [Nat.add_assoc]
/-- what is right says Check -/
theorem check_ofC {g : List Rl} (R : RightG g) : checkG g = 0 := by
  have h1 := chk1_yesC (g := g) (l := g) (i := 0) (all := 0) (fun r hr => ⟨R.named r hr, R.body r hr⟩) fun j r hr => by rw [R.once j r hr, Nat.zero_add]
  unfold checkG
  have := R.pos
  have := R.ten
  have := R.nodes
  rw [if_neg (by omega), if_neg (by omega), h1, if_neg (by simp), if_neg (by simp only; omega), chk2_yesC R.rt]
end Go.Proofs.Ytkmcnekjimobhaa
