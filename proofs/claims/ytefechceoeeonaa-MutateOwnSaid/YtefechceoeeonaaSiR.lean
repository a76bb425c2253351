/- A grammar made simpler is as well as it was, has the same facts, and means the same: plain. -/
import Derived.Test.YtefechceoeeonaaSiQ
namespace Go.Proofs.Ytefechceoeeonaa
open Go.RowKit

section
variable {g : List Rl} {fs : List Fa}
theorem semR_some {s : List UInt8} {x : Ex} : ∀ n {p : Nat} {o : Option Nat}, evR g s n x p = some o → o ≠ none
  | 0, _, _, h => by cases h
  | n + 1, p, o, h => by
    rw [evR_s] at h
    cases he : ev g s n x p with
    | none => rw [he] at h; cases h
    | some u =>
      rw [he] at h
      cases u with
      | none => injection h with h; rw [← h]; simp
      | some q => exact semR_some n h
theorem kid_sound {kn : List Bool} {k a b c d : Int} {t : ByteArray} {x : Ex} (h7 : 7 ≤ k) : soundE g fs kn (.mk k a b c d t [x]) = soundE g fs kn x := by
  rw [sound6 (by omega) (by omega)]
  cases h : soundE g fs kn x
  · cases h' : soundA g fs kn [x]
    · rfl
    · have := soundA_all.1 h' x (by simp); rw [h] at this; cases this
  · exact soundA_all.2 fun e he => by simp only [List.mem_singleton] at he; rw [he]; exact h
theorem fit_kid (k : Int) (h7 : 7 ≤ k) (h11 : k ≤ 11) : fitB k 0 0 0 0 (⟨#[]⟩ : ByteArray).data.toList 1 = true := by
  unfold fitB lims
  rw [if_neg (by omega), if_neg (by omega), if_neg (by omega), if_neg (by omega), if_pos ⟨h7, h11⟩]
  simp
/-- two that are one -/
theorem single_lik {k a b c d : Int} {t : ByteArray} {x : Ex} (h : GoodE g fs (.mk k a b c d t [x])) (h9 : 9 ≤ k) : Lik g fs (.mk k a b c d t [x]) (singleS (.mk k a b c d t [x])).1 := by
  obtain ⟨x', hx', h11, hx⟩ := h.one_kid (by omega)
  obtain rfl : x = x' := by simpa using hx'
  clear hx'
  obtain ⟨k2, a2, b2, c2, d2, t2, ks⟩ := x
  rw [single_two]
  split
  · rename_i hc
    obtain ⟨rfl, rfl⟩ := hc
    obtain ⟨y, rfl, _, hy⟩ := hx.one_kid (by decide)
    unfold ofN
    refine ⟨good_node (fit_kid 10 (by decide) (by decide)) (by decide) (fun e he => by simp only [List.mem_singleton] at he; rw [he]; exact hy) (fun h => by omega), fun kn _ => ?_, fun kn hs => ?_, fun s p o hp hs => ?_, by simp only [nodes, nodesAll]; omega, by simp only [dep, depAll]; omega⟩
    · rw [of_kid (by decide) (by decide), of_kid (by decide) (by decide), of_kid (by decide) (by decide)]
      simp [facK]
    · rw [kid_sound (by decide), kid_sound (by decide)] at hs
      rw [kid_sound (by decide)]; exact hs
    · rw [sem9 (by decide) (by decide)] at hs ⊢
      obtain ⟨u, h1, rfl⟩ := hs
      rw [sem9 (by decide) (by decide)] at h1
      obtain ⟨v, h2, rfl⟩ := h1
      exact ⟨v, h2, by cases v <;> simp [lookK]⟩
  split
  · rename_i hc
    obtain ⟨rfl, rfl⟩ := hc
    obtain ⟨y, rfl, _, hy⟩ := hx.one_kid (by decide)
    unfold ofN
    refine ⟨good_node (fit_kid 11 (by decide) (by decide)) (by decide) (fun e he => by simp only [List.mem_singleton] at he; rw [he]; exact hy) (fun h => by omega), fun kn _ => ?_, fun kn hs => ?_, fun s p o hp hs => ?_, by simp only [nodes, nodesAll]; omega, by simp only [dep, depAll]; omega⟩
    · rw [of_kid (by decide) (by decide), of_kid (by decide) (by decide), of_kid (by decide) (by decide)]
      simp [facK]
    · rw [kid_sound (by decide), kid_sound (by decide)] at hs
      rw [kid_sound (by decide)]; exact hs
    · rw [sem9 (by decide) (by decide)] at hs ⊢
      obtain ⟨u, h1, rfl⟩ := hs
      rw [sem9 (by decide) (by decide)] at h1
      obtain ⟨v, h2, rfl⟩ := h1
      exact ⟨v, h2, by cases v <;> simp [lookK]⟩
  split
  · rename_i hc
    have h7 : 7 ≤ k2 := by omega
    obtain ⟨y, rfl, h211, hy⟩ := hx.one_kid h7
    refine ⟨hx, fun kn _ => ?_, fun kn hs => ?_, fun s p o hp hs => ?_, by simp only [nodes, nodesAll]; omega, by simp only [dep, depAll]; omega⟩
    · rw [of_kid (by omega) h11, of_kid h7 h211]
      rcases hc with ⟨rfl, rfl | rfl⟩ | ⟨rfl, rfl | rfl⟩ <;> simp [facK, orF, starF]
    · rw [kid_sound (by omega)] at hs
      exact hs
    · rw [sem9 h9 h11] at hs
      obtain ⟨u, h1, rfl⟩ := hs
      suffices hh : lookK k p u = u by rw [hh]; exact h1
      rcases hc with ⟨rfl, hc⟩ | ⟨rfl, rfl | rfl⟩
      · rw [sem9 (by omega) (by omega)] at h1
        obtain ⟨v, _, rfl⟩ := h1
        rcases hc with rfl | rfl <;> cases v <;> simp [lookK]
      · rw [sem9 (by omega) (by omega)] at h1
        obtain ⟨v, _, rfl⟩ := h1
        cases v <;> simp [lookK]
      · rw [sem7] at h1
        obtain ⟨n, h1⟩ := h1
        cases u with
        | none => exact absurd rfl (semR_some n h1)
        | some q => simp [lookK]
  split
  · rename_i hc
    obtain ⟨rfl, rfl⟩ := hc
    have hne := hx.kids.2.2.2 (.inr rfl)
    obtain ⟨y, rfl, _, hy⟩ := hx.one_kid (by decide)
    have hy0 := hne y rfl
    unfold ofN
    refine ⟨good_node (fit_kid 7 (by decide) (by decide)) (by decide) (fun e he => by simp only [List.mem_singleton] at he; rw [he]; exact hy) (fun _ e he => by simp only [List.cons.injEq, and_true] at he; rw [← he]; exact hy0), fun kn hk => ?_, fun kn hs => ?_, fun s p o hp hs => ?_, by simp only [nodes, nodesAll]; omega, by simp only [dep, depAll]; omega⟩
    · rw [of_kid (by decide) (by decide), of_kid (by decide) (by decide), of_kid (by decide) (by decide)]
      have hm := (of_mono (g := g) hk y).1
      have hy1 : (ofE g kn y).e = false := by
        cases hh : (ofE g kn y).e
        · rfl
        · rw [hm hh] at hy0; cases hy0
      generalize ofE g kn y = v at hy1
      obtain ⟨e, a', f⟩ := v
      simp only at hy1
      subst hy1
      cases a' <;> cases f <;> simp [facK, orF, starF, thenF]
    · rw [kid_sound (by decide), kid_sound (by decide)] at hs
      rw [kid_sound (by decide)]; exact hs
    · rw [sem9 (by decide) (by decide)] at hs
      obtain ⟨u, h1, rfl⟩ := hs
      rw [sem7]
      rw [sem8] at h1
      rcases h1 with ⟨h1, rfl⟩ | ⟨q, h1, n, h2⟩
      · exact semR_iff.2 (.inl ⟨h1, by simp [lookK]⟩)
      · cases u with
        | none => exact absurd rfl (semR_some n h2)
        | some r => exact semR_iff.2 (.inr ⟨q, h1, n, by simpa [lookK] using h2⟩)
  · exact Lik.refl h
/-- an expression made simpler stands for what it was -/
theorem sim_lik (H : Fits g fs) (e : Ex) : GoodE g fs e → Lik g fs e (simE g fs e).1 := by
  refine Ex.ind (P := fun e => GoodE g fs e → Lik g fs e (simE g fs e).1) ?_ e
  intro k a b c d t ks ih hg
  have hk := hg.kid
  have hl : ∀ e ∈ ks, Lik g fs e (simE g fs e).1 := fun e he => ih e he (hk e he)
  have hfc := fit_cases hg.kids.2.1
  unfold simE
  rw [simEs_map]
  by_cases h5 : k = 5
  · subst h5
    rw [if_pos (.inl rfl)]
    have h1 := SqL.map H (f := fun e => (simE g fs e).1) hk hl
    obtain ⟨h2, h3⟩ := listS_seq H (ks.map fun e => (simE g fs e).1) [] (fun e he => by cases he) h1.good (by simp; have := hg.five; omega)
    exact top_seq hg (h1.trans (by simpa using h2)) h3
  by_cases h6 : k = 6
  · subst h6
    rw [if_pos (.inr rfl)]
    have h1 := AlL.map (f := fun e => (simE g fs e).1) hl
    obtain ⟨h2, h3, h4⟩ := listS_alt H (ks.map fun e => (simE g fs e).1) [] (fun e he => by cases he) h1.good (by simp; have := hg.six; omega)
    exact top_alt hg (h1.trans (by simpa using h2)) h3 (h4 (by simp; have := hg.six; omega))
  rw [if_neg (by omega)]
  by_cases h7 : 7 ≤ k
  · obtain ⟨x, rfl, h11, hx⟩ := hg.one_kid h7
    have h1 := Lik.kid H hg h7 (hl x (by simp))
    by_cases h9 : 9 ≤ k ∧ k ≤ 11
    · rw [if_pos h9]
      exact h1.trans (single_lik h1.good h9.1)
    · rw [if_neg h9]
      exact h1
  · rw [if_neg (by omega)]
    obtain rfl : ks = [] := nil_of (by omega)
    exact Lik.refl hg
end

/-! it has fewer nodes if something was made simpler -/
theorem single_sz : ∀ e : Ex, nodes (singleS e).1 ≤ nodes e ∧ ((singleS e).2 = true → nodes (singleS e).1 < nodes e)
  | .mk k a b c d t [] => ⟨Nat.le_refl _, fun h => by cases h⟩
  | .mk k a b c d t (.mk k2 a2 b2 c2 d2 t2 ks :: xs) => by
    rw [single_two]
    have h1 : ∀ k', nodes (ofN k' ks) = 1 + nodesAll ks := fun k' => by unfold ofN; rw [nodes]
    have h2 : nodes (.mk k a b c d t (.mk k2 a2 b2 c2 d2 t2 ks :: xs)) = 1 + (1 + nodesAll ks + nodesAll xs) := by rw [nodes, nodesAll, nodes]
    have h3 : nodes (.mk k2 a2 b2 c2 d2 t2 ks) = 1 + nodesAll ks := by rw [nodes]
    split
    · simp only [h1, h2]; exact ⟨by omega, fun _ => by omega⟩
    split
    · simp only [h1, h2]; exact ⟨by omega, fun _ => by omega⟩
    split
    · simp only [h3, h2]; exact ⟨by omega, fun _ => by omega⟩
    split
    · simp only [h1, h2]; exact ⟨by omega, fun _ => by omega⟩
    · exact ⟨Nat.le_refl _, fun h => by cases h⟩
theorem list_sz {g : List Rl} {fs : List Fa} {k : Int} : ∀ xs l : List Ex, nodesAll (listS g fs k xs l).1 ≤ nodesAll l + nodesAll xs ∧ ((listS g fs k xs l).2 = true → nodesAll (listS g fs k xs l).1 < nodesAll l + nodesAll xs)
  | [], l => ⟨by simp [listS, nodesAll], fun h => by cases h⟩
  | x :: xs, l => by
    have hp := nodes_pos x
    have hxs : 0 < xs.length → 0 < nodesAll xs := fun h => by
      cases xs with
      | nil => simp at h
      | cons y ys => have := nodes_pos y; simp only [nodesAll]; omega
    unfold listS
    rw [nodesAll]
    split
    · obtain ⟨i1, i2⟩ := list_sz (g := g) (fs := fs) (k := k) xs l
      exact ⟨by simp only; omega, fun _ => by simp only; omega⟩
    have hm : nodesAll (l ++ (if flatB k x l xs = true then x.ks else [x])) ≤ nodesAll l + nodes x ∧ (flatB k x l xs = true → nodesAll (l ++ (if flatB k x l xs = true then x.ks else [x])) < nodesAll l + nodes x) := by
      obtain ⟨k2, a2, b2, c2, d2, t2, ks⟩ := x
      rw [nodesAll_app]
      split
      · simp only [Ex.ks, nodes]; exact ⟨by omega, fun _ => by omega⟩
      · rename_i h; simp only [nodesAll]; exact ⟨by omega, fun h' => absurd h' h⟩
    split
    · rename_i hc
      unfold lastB at hc
      simp only [Bool.and_eq_true, decide_eq_true_eq] at hc
      have := hxs hc.1.2
      exact ⟨by simp only; omega, fun _ => by simp only; omega⟩
    · obtain ⟨i1, i2⟩ := list_sz (g := g) (fs := fs) (k := k) xs (l ++ (if flatB k x l xs = true then x.ks else [x]))
      refine ⟨by simp only; omega, fun h => ?_⟩
      simp only [Bool.or_eq_true] at h ⊢
      rcases h with h | h
      · have := hm.2 h; omega
      · have := i2 h; omega
theorem top_sz {k a b c d : Int} {t : ByteArray} : ∀ r : List Ex × Bool, nodes (topS k a b c d t r).1 ≤ 1 + nodesAll r.1 ∧ ((topS k a b c d t r).2 = true → r.2 = true ∨ nodes (topS k a b c d t r).1 < 1 + nodesAll r.1)
  | ([], m) => ⟨by simp [topS, ofN, nodes, nodesAll], fun h => .inl h⟩
  | ([y], m) => ⟨by simp only [topS, nodesAll]; omega, fun _ => .inr (by simp only [topS, nodesAll]; omega)⟩
  | (y :: z :: l, m) => ⟨by simp only [topS, nodes]; omega, fun h => .inl h⟩
theorem sim_sz {g : List Rl} {fs : List Fa} (e : Ex) : nodes (simE g fs e).1 ≤ nodes e ∧ ((simE g fs e).2 = true → nodes (simE g fs e).1 < nodes e) := by
  refine Ex.ind (P := fun e => nodes (simE g fs e).1 ≤ nodes e ∧ ((simE g fs e).2 = true → nodes (simE g fs e).1 < nodes e)) ?_ e
  intro k a b c d t ks ih
  have hk : ∀ l : List Ex, (∀ x ∈ l, x ∈ ks) → nodesAll (simEs g fs l).1 ≤ nodesAll l ∧ ((simEs g fs l).2 = true → nodesAll (simEs g fs l).1 < nodesAll l) := by
    intro l
    induction l with
    | nil => intro _; exact ⟨by simp [simEs], fun h => by cases h⟩
    | cons x xs ihl =>
      intro hm
      obtain ⟨i1, i2⟩ := ihl fun y hy => hm y (by simp [hy])
      obtain ⟨j1, j2⟩ := ih x (hm x (by simp))
      rw [simEs, nodesAll, nodesAll]
      refine ⟨by omega, fun h => ?_⟩
      simp only [Bool.or_eq_true] at h
      rcases h with h | h
      · have := j2 h; omega
      · have := i2 h; omega
  obtain ⟨i1, i2⟩ := hk ks fun x hx => hx
  unfold simE
  rw [nodes]
  split
  · obtain ⟨l1, l2⟩ := list_sz (g := g) (fs := fs) (k := k) (simEs g fs ks).1 []
    obtain ⟨t1, t2⟩ := top_sz (k := k) (a := a) (b := b) (c := c) (d := d) (t := t) (listS g fs k (simEs g fs ks).1 [])
    simp only [nodesAll, Nat.zero_add] at l1 l2
    refine ⟨by simp only; omega, fun h => ?_⟩
    simp only [Bool.or_eq_true] at h ⊢
    rcases h with h | h
    · have := i2 h; omega
    · rcases t2 h with h | h
      · have := l2 h; omega
      · omega
  split
  · obtain ⟨t1, t2⟩ := single_sz (.mk k a b c d t (simEs g fs ks).1)
    rw [nodes] at t1 t2
    refine ⟨by simp only; omega, fun h => ?_⟩
    simp only [Bool.or_eq_true] at h ⊢
    rcases h with h | h
    · have := i2 h; omega
    · have := t2 h; omega
  · rw [nodes]
    exact ⟨by omega, fun h => by have := i2 h; omega⟩
theorem simG_sz (g : List Rl) : nodesG (simG g).1 ≤ nodesG g ∧ ((simG g).2 = true → nodesG (simG g).1 < nodesG g) := by
  unfold simG nodesG
  simp only
  generalize factsG g = fs
  generalize hg : g = g0
  have : ∀ l : List Rl, ((l.map fun r => (r.1, (simE g0 fs r.2).1)).map fun r => nodes r.2).sum ≤ (l.map fun r => nodes r.2).sum ∧ (l.any (fun r => (simE g0 fs r.2).2) = true → ((l.map fun r => (r.1, (simE g0 fs r.2).1)).map fun r => nodes r.2).sum < (l.map fun r => nodes r.2).sum) := by
    intro l
    induction l with
    | nil => exact ⟨Nat.le_refl _, fun h => by cases h⟩
    | cons r l ih =>
      obtain ⟨i1, i2⟩ := ih
      obtain ⟨j1, j2⟩ := sim_sz (g := g0) (fs := fs) r.2
      simp only [List.map_cons, List.sum_cons, List.any_cons, Bool.or_eq_true]
      refine ⟨by omega, fun h => ?_⟩
      rcases h with h | h
      · have := j2 h; omega
      · have := i2 h; omega
  exact this g0
end Go.Proofs.Ytefechceoeeonaa
