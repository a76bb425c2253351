/- The law GramReaches, plain: of the rules that are reached all are reached. -/
import Derived.Test.YtphfckihdhmhpaaGaQ
namespace Go.Proofs.Ytphfckihdhmhpaa

def sucG (g : List Rl) (i : Nat) : List Nat := match g[i]? with
  | some r => (refsE r.2).map fun s => (fnd g s.data.toList).toNat
  | none => []
def reachG (g : List Rl) : List Bool := vis (sucG g) 10 (List.replicate g.length false) 0
theorem mem_suc {g : List Rl} {i y : Nat} : y ∈ sucG g i ↔ ∃ r, g[i]? = some r ∧ ∃ s ∈ refsE r.2, (fnd g s.data.toList).toNat = y := by
  unfold sucG
  cases h : g[i]? with
  | none => simp
  | some r => simp
theorem suc_lt {g : List Rl} (h : checkG g = 0) (x y : Nat) (hy : y ∈ sucG g x) : y < g.length := by
  obtain ⟨r, h1, s, h2, rfl⟩ := mem_suc.1 hy
  obtain ⟨r', h3, _⟩ := fnd_at (fnd_known h (List.mem_of_getElem? h1) h2)
  exact getElem?_lt h3
theorem reach_len (g : List Rl) : (reachG g).length = g.length := by
  unfold reachG
  rw [(vis_basic _ _ _ _).1, List.length_replicate]
theorem not_rep (n x : Nat) : (List.replicate n false)[x]? ≠ some true := fun e => by
  rw [List.getElem?_replicate] at e
  split at e <;> simp at e
theorem reach_zero {g : List Rl} (h : checkG g = 0) : (reachG g)[0]? = some true := by
  have R := right_of h
  exact (vis_closed (suc_lt h) 10 _ 0 (List.length_replicate ..) R.pos (by rw [List.count_replicate_self]; exact R.ten)).1
theorem reach_closed {g : List Rl} (h : checkG g = 0) : ∀ x, (reachG g)[x]? = some true → ∀ y ∈ sucG g x, (reachG g)[y]? = some true := by
  have R := right_of h
  intro x hx
  exact (vis_closed (suc_lt h) 10 _ 0 (List.length_replicate ..) R.pos (by rw [List.count_replicate_self]; exact R.ten)).2 x hx (not_rep _ _)
theorem reach_sound (g : List Rl) (x : Nat) (hx : (reachG g)[x]? = some true) : Rch (sucG g) 0 x := by
  rcases vis_sound (sucG g) 10 _ 0 x hx with h | h
  · exact absurd h (not_rep _ _)
  · exact h
/-- the rules that are reached -/
def heldG (g : List Rl) : List Rl := keepR g (reachG g)
theorem held_right {g : List Rl} (h : checkG g = 0) : RightG (heldG g) :=
  keep_right h (reach_zero h) fun i r h1 h2 s hs => reach_closed h i h2 _ (mem_suc.2 ⟨r, h1, s, hs, rfl⟩)
theorem rt_refsG {g : List Rl} {e : Ex} (hr : Rt g e) : ∀ s, ((4 : Int), s) ∈ preE e → 0 ≤ fnd g s.data.toList := by
  induction hr with
  | mk k a b c d t ks _ h4 _ ih =>
    intro s hs
    rw [preE, List.mem_cons] at hs
    rcases hs with hs | hs
    · injection hs with e1 e2
      rw [e2]
      exact h4 e1.symm
    · have : ∀ l : List Ex, (∀ x ∈ l, x ∈ ks) → ((4 : Int), s) ∈ preEs l → 0 ≤ fnd g s.data.toList := by
        intro l
        induction l with
        | nil => intro _ h; rw [preEs] at h; cases h
        | cons x l ihl =>
          intro hm h
          rw [preEs, List.mem_append] at h
          rcases h with h | h
          · exact ih x (hm x (by simp)) s h
          · exact ihl (fun y hy => hm y (by simp [hy])) h
      exact this ks (fun x hx => hx) hs
theorem known1_yesG {g : List Rl} : ∀ {l : List ByteArray}, (∀ s ∈ l, 0 ≤ fnd g s.data.toList) → known1 g l = true
  | [], _ => by rw [known1]
  | x :: l, h => by
    rw [known1, if_neg (by have := h x (by simp); omega)]
    exact known1_yesG fun s hs => h s (by simp [hs])
theorem chk2_yesG {g : List Rl} : ∀ {l : List Rl}, (∀ r ∈ l, Rt g r.2) → chk2 g l = 0
  | [], _ => by rw [chk2]
  | r :: l, h => by
    have h1 : known1 g (refsC r.2) = true := known1_yesG fun s hs => by
      unfold refsC at hs
      split at hs
      · exact rt_refsG (h r (by simp)) s ((mem_refsE _ _).1 hs)
      · cases hs
    rw [chk2, if_neg (by rw [h1]; decide)]
    exact chk2_yesG fun r' hr' => h r' (by simp [hr'])
theorem chk1_yesG {g : List Rl} : ∀ {l : List Rl} {i all : Nat}, (∀ r ∈ l, nameB r.1.data.toList = true ∧ checkE r.2 = 0) → (∀ (j : Nat) (r : Rl), l[j]? = some r → fnd g r.1.data.toList = ((i + j : Nat) : Int)) → chk1 g l i all = (0, all + (l.map fun r => nodes r.2).sum)
  | [], i, all, _, _ => by simp [chk1]
  | x :: l, i, all, h1, h2 => by
    have := h2 0 x rfl
    rw [chk1, if_neg (by rw [(h1 x (by simp)).1]; decide), if_neg (by rw [this]; simp), if_neg (by rw [(h1 x (by simp)).2]; decide), chk1_yesG (fun r hr => h1 r (by simp [hr])) fun j r hr => by rw [h2 (j + 1) r (by simpa using hr)]; congr 1; omega]
    simp only [List.map_cons, List.sum_cons]
    rw [Nat.add_assoc]
/-- what is right says Check -/
theorem check_ofG {g : List Rl} (R : RightG g) : checkG g = 0 := by
  have h1 := chk1_yesG (g := g) (l := g) (i := 0) (all := 0) (fun r hr => ⟨R.named r hr, R.body r hr⟩) fun j r hr => by rw [R.once j r hr, Nat.zero_add]
  unfold checkG
  have := R.pos
  have := R.ten
  have := R.nodes
  rw [if_neg (by omega), if_neg (by omega), h1, if_neg (by simp), if_neg (by simp only; omega), chk2_yesG R.rt]
theorem held_check {g : List Rl} (h : checkG g = 0) : checkG (heldG g) = 0 := check_ofG (held_right h)
theorem keep_zero {g : List Rl} {o : List Bool} {r : Rl} (hg : g[0]? = some r) (ho : o[0]? = some true) : (keepR g o)[0]? = some r := by
  cases g with
  | nil => simp at hg
  | cons x g =>
    cases o with
    | nil => simp at ho
    | cons b o =>
      simp only [List.getElem?_cons_zero, Option.some.injEq] at hg ho
      rw [keepR, if_pos ho]
      simp [hg]
/-- all that is held is reached among what is held -/
theorem reach_all {g : List Rl} (h : checkG g = 0) (hh : checkG (heldG g) = 0) : reachG (heldG g) = List.replicate (heldG g).length true := by
  have R := right_of h
  have hpath : ∀ i, Rch (sucG g) 0 i → ∀ r, g[i]? = some r → (reachG g)[i]? = some true ∧ (reachG (heldG g))[(fnd (heldG g) r.1.data.toList).toNat]? = some true := by
    intro i hi
    induction hi with
    | refl =>
      intro r hr
      refine ⟨reach_zero h, ?_⟩
      have := keep_once R (reachG g) 0 r (keep_zero hr (reach_zero h))
      unfold heldG at *
      rw [this]
      exact reach_zero hh
    | step x y hx hy ih =>
      intro r hr
      obtain ⟨rx, h1, s, h2, h3⟩ := mem_suc.1 hy
      obtain ⟨i1, i2⟩ := ih rx h1
      have hym := reach_closed h x i1 y hy
      refine ⟨hym, ?_⟩
      obtain ⟨r', h4, h5⟩ := fnd_at (fnd_known h (List.mem_of_getElem? h1) h2)
      rw [h3, hr] at h4
      injection h4 with h4
      subst h4
      obtain ⟨j, hj⟩ := List.mem_iff_getElem?.1 (mem_keepR.2 ⟨x, h1, i1⟩)
      have hpx := keep_once R (reachG g) j rx hj
      refine reach_closed hh _ i2 _ (mem_suc.2 ⟨rx, ?_, s, h2, ?_⟩)
      · unfold heldG
        rw [hpx]
        exact hj
      · rw [h5]
  refine List.ext_getElem? fun j => ?_
  by_cases hj : j < (heldG g).length
  · rw [List.getElem?_replicate, if_pos hj]
    have hjj : (heldG g)[j]? = some ((heldG g)[j]) := List.getElem?_eq_getElem hj
    obtain ⟨i, h1, h2⟩ := mem_keepR.1 (List.mem_of_getElem? hjj)
    have h3 := (hpath i (reach_sound g i h2) _ h1).2
    have h4 := keep_once R (reachG g) j _ hjj
    unfold heldG at h3 h4
    rw [h4] at h3
    exact h3
  · rw [List.getElem?_eq_none (by rw [reach_len]; omega), List.getElem?_eq_none (by simp; omega)]
end Go.Proofs.Ytphfckihdhmhpaa
