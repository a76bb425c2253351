/- What is known of the rules grows: the order of facts, well.of rises with what is known; plain. -/
import Derived.Test.YtjmckmjngnmagaaWeB
import Derived.Test.YtjmckmjngnmagaaGC
namespace Go.Proofs.Ytjmckmjngnmagaa
open Go.RowKit

def bwt (b : Bool) : Nat := if b then 0 else 1
def faOrd : Ord Fa where
  le x y := (x.e = true → y.e = true) ∧ (x.a = true → y.a = true) ∧ (x.f = true → y.f = true)
  wt x := bwt x.e + bwt x.a + bwt x.f
  refl x := ⟨id, id, id⟩
  trans h k := ⟨fun e => k.1 (h.1 e), fun e => k.2.1 (h.2.1 e), fun e => k.2.2 (h.2.2 e)⟩
  lt := by
    rintro ⟨a, b, c⟩ ⟨a', b', c'⟩
    revert a b c a' b' c'
    decide
def boOrd : Ord Bool where
  le x y := x = true → y = true
  wt := bwt
  refl x := id
  trans h k := fun e => k (h e)
  lt := by decide

theorem bot_le (y : Fa) : faOrd.le ⟨false, false, false⟩ y := ⟨(fun h => by cases h), (fun h => by cases h), (fun h => by cases h)⟩
theorem then_mono {a b c d : Fa} (h : faOrd.le a b) (k : faOrd.le c d) : faOrd.le (thenF a c) (thenF b d) := by
  obtain ⟨a1, a2, a3⟩ := a
  obtain ⟨b1, b2, b3⟩ := b
  obtain ⟨c1, c2, c3⟩ := c
  obtain ⟨d1, d2, d3⟩ := d
  obtain ⟨h1, h2, h3⟩ := h
  obtain ⟨k1, k2, k3⟩ := k
  simp only at h1 h2 h3 k1 k2 k3
  refine ⟨?_, ?_, ?_⟩ <;> simp only [thenF, Bool.and_eq_true, Bool.or_eq_true] <;> grind
theorem or_mono {a b c d : Fa} (h : faOrd.le a b) (k : faOrd.le c d) : faOrd.le (orF a c) (orF b d) := by
  obtain ⟨h1, h2, h3⟩ := h
  obtain ⟨k1, k2, k3⟩ := k
  refine ⟨?_, ?_, ?_⟩ <;> simp only [orF, Bool.and_eq_true, Bool.or_eq_true] <;> grind
theorem star_mono {a b : Fa} (h : faOrd.le a b) : faOrd.le (starF a) (starF b) := ⟨h.2.2, h.2.1, id⟩
theorem seq_mono : ∀ {l m : List Fa}, LeL faOrd l m → faOrd.le (seqF l) (seqF m)
  | [], [], _ => by simp only [seqF]; exact faOrd.refl _
  | [], y :: ys, h => by have := h.1; simp at this
  | x :: xs, [], h => by have := h.1; simp at this
  | x :: xs, y :: ys, h => by
    simp only [seqF]
    have h0 := h.2 0 x y rfl rfl
    have ht : LeL faOrd xs ys := ⟨by have := h.1; simpa using this, fun i u v hu hv => h.2 (i + 1) u v (by simpa using hu) (by simpa using hv)⟩
    clear h
    induction xs generalizing ys x y with
    | nil =>
      cases ys with
      | nil => exact h0
      | cons z zs => have := ht.1; simp at this
    | cons u us ih =>
      cases ys with
      | nil => have := ht.1; simp at this
      | cons z zs =>
        simp only [List.foldl_cons]
        exact ih (thenF x u) (thenF y z) zs (then_mono h0 (ht.2 0 u z rfl rfl)) ⟨by have := ht.1; simpa using this, fun i p q hp hq => ht.2 (i + 1) p q (by simpa using hp) (by simpa using hq)⟩
theorem alt_mono : ∀ {l m : List Fa}, LeL faOrd l m → faOrd.le (altF l) (altF m)
  | [], [], _ => by simp only [altF]; exact faOrd.refl _
  | [], y :: ys, h => by have := h.1; simp at this
  | x :: xs, [], h => by have := h.1; simp at this
  | [x], [y], h => by simp only [altF]; exact h.2 0 x y rfl rfl
  | [x], y :: z :: zs, h => by have := h.1; simp at this
  | x :: u :: us, [y], h => by have := h.1; simp at this
  | x :: u :: us, y :: z :: zs, h => by
    simp only [altF]
    exact or_mono (h.2 0 x y rfl rfl) (alt_mono (l := u :: us) (m := z :: zs) ⟨by have := h.1; simpa using this, fun i p q hp hq => h.2 (i + 1) p q (by simpa using hp) (by simpa using hq)⟩)
theorem kid_mono : ∀ {l m : List Fa}, LeL faOrd l m → faOrd.le (kid0 l) (kid0 m)
  | [], [], _ => by simp only [kid0]; exact faOrd.refl _
  | [], y :: ys, h => by have := h.1; simp at this
  | x :: xs, [], h => by have := h.1; simp at this
  | x :: xs, y :: ys, h => by simp only [kid0]; exact h.2 0 x y rfl rfl
theorem ofEs_mono {g : List Rl} {l m : List Fa} (ks : List Ex) (ih : ∀ e ∈ ks, faOrd.le (ofE g l e) (ofE g m e)) : LeL faOrd (ofEs g l ks) (ofEs g m ks) := by
  refine ⟨by rw [ofEs_len, ofEs_len], fun i x y hx hy => ?_⟩
  rw [ofEs_at, Option.map_eq_some_iff] at hx hy
  obtain ⟨e, he, rfl⟩ := hx
  obtain ⟨e', he', rfl⟩ := hy
  rw [he] at he'
  injection he' with he'
  subst he'
  exact ih e (List.mem_of_getElem? he)
theorem of_mono {g : List Rl} {l m : List Fa} (h : LeL faOrd l m) (e : Ex) : faOrd.le (ofE g l e) (ofE g m e) := by
  refine Ex.ind (P := fun e => faOrd.le (ofE g l e) (ofE g m e)) ?_ e
  intro k a b c d t ks ih
  have hk := ofEs_mono ks ih
  have h0 := kid_mono hk
  rw [ofE, ofE]
  by_cases k1 : k = 1
  · rw [if_pos k1, if_pos k1]
    exact faOrd.refl _
  rw [if_neg k1, if_neg k1]
  by_cases k2 : k = 2
  · rw [if_pos k2, if_pos k2]
    exact faOrd.refl _
  rw [if_neg k2, if_neg k2]
  by_cases k3 : k = 3
  · rw [if_pos k3, if_pos k3]
    exact faOrd.refl _
  rw [if_neg k3, if_neg k3]
  by_cases k4 : k = 4
  · rw [if_pos k4, if_pos k4]
    have hl := h.1
    by_cases hi : (fnd g t.data.toList).toNat < l.length
    · have h1 : l[(fnd g t.data.toList).toNat]? = some l[(fnd g t.data.toList).toNat] := List.getElem?_eq_getElem hi
      have h2 : m[(fnd g t.data.toList).toNat]? = some (m[(fnd g t.data.toList).toNat]'(by omega)) := List.getElem?_eq_getElem (by omega)
      have := h.2 _ _ _ h1 h2
      simp only [List.getD, h1, h2, Option.getD_some]
      exact this
    · simp only [List.getD, List.getElem?_eq_none (show l.length ≤ (fnd g t.data.toList).toNat by omega), List.getElem?_eq_none (show m.length ≤ (fnd g t.data.toList).toNat by omega)]
      exact faOrd.refl _
  rw [if_neg k4, if_neg k4]
  by_cases k5 : k = 5
  · rw [if_pos k5, if_pos k5]
    exact seq_mono hk
  rw [if_neg k5, if_neg k5]
  by_cases k6 : k = 6
  · rw [if_pos k6, if_pos k6]
    exact alt_mono hk
  rw [if_neg k6, if_neg k6]
  by_cases k7 : k = 7
  · rw [if_pos k7, if_pos k7]
    exact star_mono h0
  rw [if_neg k7, if_neg k7]
  by_cases k8 : k = 8
  · rw [if_pos k8, if_pos k8]
    exact then_mono h0 (star_mono h0)
  rw [if_neg k8, if_neg k8]
  by_cases k9 : k = 9
  · rw [if_pos k9, if_pos k9]
    exact or_mono h0 (faOrd.refl _)
  rw [if_neg k9, if_neg k9]
  obtain ⟨h1, h2, h3⟩ := h0
  have h12 : ((kid0 (ofEs g l ks)).e || (kid0 (ofEs g l ks)).a) = true → ((kid0 (ofEs g m ks)).e || (kid0 (ofEs g m ks)).a) = true := by
    simp only [Bool.or_eq_true]
    rintro (h | h)
    · exact .inl (h1 h)
    · exact .inr (h2 h)
  by_cases k10 : k = 10
  · rw [if_pos k10, if_pos k10]
    exact ⟨h12, id, h3⟩
  rw [if_neg k10, if_neg k10]
  exact ⟨h3, id, h12⟩

/-- the facts of a rule, by what is known of all -/
def nxF (g : List Rl) (kn : List Fa) (i : Nat) : Fa := match g[i]? with
  | some r => ofE g kn r.2
  | none => ⟨false, false, false⟩
def factsG (g : List Rl) : List Fa := growG (nxF g) (wtL faOrd (List.replicate g.length ⟨false, false, false⟩) + 1) (List.replicate g.length ⟨false, false, false⟩)
theorem nxF_mono (g : List Rl) (n : Nat) : Mono faOrd (nxF g) n := by
  intro l m _ h i
  unfold nxF
  split
  · exact of_mono h _
  · exact faOrd.refl _
theorem low_zero (g : List Rl) : Low faOrd (nxF g) (List.replicate g.length ⟨false, false, false⟩) := by
  intro i x hx
  rw [List.getElem?_replicate] at hx
  split at hx
  · injection hx with hx
    subst hx
    exact bot_le _
  · cases hx
theorem facts_len (g : List Rl) : (factsG g).length = g.length := by
  unfold factsG
  rw [(grow_keeps (nx := nxF g) (P := fun _ => True) (fun _ _ _ _ _ => trivial) _ _ trivial).2]
  simp
theorem facts_fix (g : List Rl) (i : Nat) (hi : i < g.length) : (factsG g)[i]? = some (nxF g (factsG g) i) :=
  grow_fix (nxF_mono g g.length) _ _ (by simp) (low_zero g) (by omega) i hi
theorem facts_least (g : List Rl) {top : List Fa} (ht : top.length = g.length) (h : ∀ (i : Nat) (y : Fa), top[i]? = some y → faOrd.le (nxF g top i) y) : LeL faOrd (factsG g) top :=
  grow_least (nxF_mono g g.length) ht h _ _ (by simp) ⟨by simp [ht], fun i x y hx _ => by
    rw [List.getElem?_replicate] at hx
    split at hx
    · injection hx with hx
      subst hx
      exact bot_le _
    · cases hx⟩
end Go.Proofs.Ytjmckmjngnmagaa
