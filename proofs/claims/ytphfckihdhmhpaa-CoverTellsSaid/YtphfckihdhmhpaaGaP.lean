/- Which rules are reached, plain: a visit of a graph that marks what it meets. -/
import Derived.Test.YtphfckihdhmhpaaGA
namespace Go.Proofs.Ytphfckihdhmhpaa

/-- a visit, of so much fuel -/
def vis (S : Nat → List Nat) : Nat → List Bool → Nat → List Bool
  | 0, o, _ => o
  | f + 1, o, i => if o[i]? = some true then o else (S i).foldl (fun o s => vis S f o s) (o.set i true)
inductive Rch (S : Nat → List Nat) (i : Nat) : Nat → Prop
  | refl : Rch S i i
  | step (x y : Nat) : Rch S i x → y ∈ S x → Rch S i y
def Up (o o' : List Bool) : Prop := ∀ x : Nat, o[x]? = some true → o'[x]? = some true
theorem Up.refl (o : List Bool) : Up o o := fun _ h => h
theorem Up.trans {a b c : List Bool} (h : Up a b) (k : Up b c) : Up a c := fun x hx => k x (h x hx)
theorem up_set (o : List Bool) (i : Nat) : Up o (o.set i true) := fun x hx => by
  rw [List.getElem?_set]
  split
  · rename_i h
    subst h
    rw [if_pos (getElem?_lt hx)]
  · exact hx
theorem vis_basic (S : Nat → List Nat) : ∀ (f : Nat) (o : List Bool) (i : Nat), (vis S f o i).length = o.length ∧ Up o (vis S f o i)
  | 0, o, i => ⟨rfl, Up.refl _⟩
  | f + 1, o, i => by
    rw [vis]
    split
    · exact ⟨rfl, Up.refl _⟩
    · have h : ∀ (l : List Nat) (o : List Bool), (l.foldl (fun o s => vis S f o s) o).length = o.length ∧ Up o (l.foldl (fun o s => vis S f o s) o) := by
        intro l
        induction l with
        | nil => intro o; exact ⟨rfl, Up.refl _⟩
        | cons s l ih =>
          intro o
          have h1 := vis_basic S f o s
          have h2 := ih (vis S f o s)
          exact ⟨h2.1.trans h1.1, h1.2.trans h2.2⟩
      have h1 := h (S i) (o.set i true)
      exact ⟨h1.1.trans (List.length_set ..), (up_set o i).trans h1.2⟩
theorem fold_basic (S : Nat → List Nat) (f : Nat) : ∀ (l : List Nat) (o : List Bool), (l.foldl (fun o s => vis S f o s) o).length = o.length ∧ Up o (l.foldl (fun o s => vis S f o s) o)
  | [], o => ⟨rfl, Up.refl _⟩
  | s :: l, o => by
    have h1 := vis_basic S f o s
    have h2 := fold_basic S f l (vis S f o s)
    exact ⟨h2.1.trans h1.1, h1.2.trans h2.2⟩
theorem cnt_le : ∀ {o o' : List Bool}, o'.length = o.length → Up o o' → o'.count false ≤ o.count false
  | [], o', hl, _ => by
    have : o' = [] := List.length_eq_zero_iff.1 (by simpa using hl)
    subst this
    exact Nat.le_refl _
  | b :: o, [], hl, _ => by simp at hl
  | b :: o, c :: o', hl, hu => by
    have h1 := cnt_le (o := o) (o' := o') (by simpa using hl) (fun x hx => by simpa using hu (x + 1) (by simpa using hx))
    have h0 := hu 0
    cases b <;> cases c <;> simp_all <;> omega
theorem cnt_set : ∀ {o : List Bool} {i : Nat}, o[i]? = some false → (o.set i true).count false + 1 = o.count false
  | [], i, h => by simp at h
  | b :: o, 0, h => by
    simp only [List.getElem?_cons_zero, Option.some.injEq] at h
    subst h
    simp
  | b :: o, i + 1, h => by
    have := cnt_set (o := o) (i := i) (by simpa using h)
    cases b <;> simp <;> omega
theorem cnt_zero {o : List Bool} {i : Nat} (h : o.count false = 0) (hi : i < o.length) : o[i]? = some true := by
  rw [List.getElem?_eq_getElem hi]
  have h1 : false ∉ o := List.count_eq_zero.1 h
  cases hb : o[i] with
  | true => rfl
  | false => exact absurd (hb ▸ List.getElem_mem hi) h1
/-- what is met is marked, and all that follows it -/
theorem vis_closed {S : Nat → List Nat} {n : Nat} (hS : ∀ x y, y ∈ S x → y < n) : ∀ (f : Nat) (o : List Bool) (i : Nat), o.length = n → i < n → o.count false ≤ f →
    (vis S f o i)[i]? = some true ∧ ∀ x, (vis S f o i)[x]? = some true → o[x]? ≠ some true → ∀ y ∈ S x, (vis S f o i)[y]? = some true
  | 0, o, i, hl, hi, hc => by
    rw [vis]
    exact ⟨cnt_zero (by omega) (by omega), fun x h1 h2 => absurd h1 h2⟩
  | f + 1, o, i, hl, hi, hc => by
    rw [vis]
    by_cases ho : o[i]? = some true
    · rw [if_pos ho]
      exact ⟨ho, fun x h1 h2 => absurd h1 h2⟩
    · rw [if_neg ho]
      have hof : o[i]? = some false := by
        rw [List.getElem?_eq_getElem (by omega)] at ho ⊢
        cases hb : o[i] with
        | true => rw [hb] at ho; exact absurd rfl ho
        | false => rfl
      have hc1 := cnt_set hof
      have hfold : ∀ (l : List Nat) (o' : List Bool), (∀ y ∈ l, y < n) → o'.length = n → o'.count false ≤ f →
          (∀ y ∈ l, (l.foldl (fun o s => vis S f o s) o')[y]? = some true) ∧ ∀ x, (l.foldl (fun o s => vis S f o s) o')[x]? = some true → o'[x]? ≠ some true → ∀ y ∈ S x, (l.foldl (fun o s => vis S f o s) o')[y]? = some true := by
        intro l
        induction l with
        | nil => intro o' _ _ _; exact ⟨fun y hy => (by cases hy), fun x h1 h2 => absurd h1 h2⟩
        | cons s l ih =>
          intro o' hy hlo hco
          obtain ⟨b1, b2⟩ := vis_basic S f o' s
          obtain ⟨c1, c2⟩ := vis_closed hS f o' s hlo (hy s (by simp)) hco
          obtain ⟨d1, d2⟩ := ih (vis S f o' s) (fun y h => hy y (by simp [h])) (b1.trans hlo) (Nat.le_trans (cnt_le b1 b2) hco)
          have e2 := (fold_basic S f l (vis S f o' s)).2
          refine ⟨fun y h => ?_, fun x h1 h2 y h3 => ?_⟩
          · rcases List.mem_cons.1 h with rfl | h
            · exact e2 _ c1
            · exact d1 y h
          · by_cases hx : (vis S f o' s)[x]? = some true
            · exact e2 y (c2 x hx h2 y h3)
            · exact d2 x h1 hx y h3
      obtain ⟨h1, h2⟩ := hfold (S i) (o.set i true) (fun y hy => hS i y hy) (by simpa using hl) (by omega)
      have hup := (fold_basic S f (S i) (o.set i true)).2
      refine ⟨hup i (by rw [List.getElem?_set_self (by omega)]), fun x h3 h4 y h5 => ?_⟩
      by_cases hx : x = i
      · subst hx
        exact h1 y h5
      · exact h2 x h3 (by rw [List.getElem?_set_ne (Ne.symm hx)]; exact h4) y h5
theorem Rch.trans {S : Nat → List Nat} {a b c : Nat} (h : Rch S a b) (k : Rch S b c) : Rch S a c := by
  induction k with
  | refl => exact h
  | step x y _ hy ih => exact .step x y ih hy
/-- nothing else is marked -/
theorem vis_sound (S : Nat → List Nat) : ∀ (f : Nat) (o : List Bool) (i x : Nat), (vis S f o i)[x]? = some true → o[x]? = some true ∨ Rch S i x
  | 0, o, i, x, h => .inl h
  | f + 1, o, i, x, h => by
    rw [vis] at h
    split at h
    · exact .inl h
    · have hf : ∀ (l : List Nat) (o' : List Bool), (l.foldl (fun o s => vis S f o s) o')[x]? = some true → o'[x]? = some true ∨ ∃ s ∈ l, Rch S s x := by
        intro l
        induction l with
        | nil => intro o' h; exact .inl h
        | cons s l ih =>
          intro o' h
          rcases ih _ h with h1 | ⟨t, h1, h2⟩
          · rcases vis_sound S f o' s x h1 with h3 | h3
            · exact .inl h3
            · exact .inr ⟨s, by simp, h3⟩
          · exact .inr ⟨t, by simp [h1], h2⟩
      rcases hf _ _ h with h1 | ⟨s, h1, h2⟩
      · by_cases hx : x = i
        · subst hx; exact .inr .refl
        · rw [List.getElem?_set_ne (Ne.symm hx)] at h1; exact .inl h1
      · exact .inr ((Rch.step i s .refl h1).trans h2)
end Go.Proofs.Ytphfckihdhmhpaa
