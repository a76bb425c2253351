/- The rules that are kept, plain. -/
import Derived.Test.YtphfckihdhmhpaaGaP
import Derived.Test.YtphfckihdhmhpaaGK
namespace Go.Proofs.Ytphfckihdhmhpaa

def keepR : List Rl → List Bool → List Rl
  | r :: g, b :: o => if b = true then r :: keepR g o else keepR g o
  | _, _ => []
theorem keepR_sub : ∀ (g : List Rl) (o : List Bool), (keepR g o).Sublist g
  | [], o => by cases o <;> exact List.Sublist.refl _
  | r :: g, [] => List.nil_sublist _
  | r :: g, b :: o => by
    rw [keepR]
    split
    · exact (keepR_sub g o).cons_cons r
    · exact (keepR_sub g o).cons r
theorem mem_keepR : ∀ {g : List Rl} {o : List Bool} {r : Rl}, r ∈ keepR g o ↔ ∃ i : Nat, g[i]? = some r ∧ o[i]? = some true
  | [], o, r => by cases o <;> simp [keepR]
  | _ :: g, [], r => by simp [keepR]
  | x :: g, b :: o, r => by
    have ih := mem_keepR (g := g) (o := o) (r := r)
    rw [keepR]
    constructor
    · intro h
      split at h
      · rename_i hb
        rcases List.mem_cons.1 h with rfl | h
        · exact ⟨0, rfl, by simp [hb]⟩
        · obtain ⟨i, h1, h2⟩ := ih.1 h
          exact ⟨i + 1, by simpa using h1, by simpa using h2⟩
      · obtain ⟨i, h1, h2⟩ := ih.1 h
        exact ⟨i + 1, by simpa using h1, by simpa using h2⟩
    · rintro ⟨i, h1, h2⟩
      cases i with
      | zero =>
        simp only [List.getElem?_cons_zero, Option.some.injEq] at h1 h2
        subst h1
        rw [if_pos h2]
        simp
      | succ i =>
        have := ih.2 ⟨i, by simpa using h1, by simpa using h2⟩
        split
        · exact List.mem_cons_of_mem _ this
        · exact this
theorem fndFrom_nodup : ∀ {h : List Rl} (i : Nat), (h.map fun r => r.1.data.toList).Nodup → ∀ (j : Nat) (r : Rl), h[j]? = some r → fndFrom h r.1.data.toList i = (i + j : Nat)
  | [], i, _, j, r, hj => by simp at hj
  | x :: h, i, hn, 0, r, hj => by
    simp only [List.getElem?_cons_zero, Option.some.injEq] at hj
    subst hj
    rw [fndFrom, if_pos rfl, Nat.add_zero]
  | x :: h, i, hn, j + 1, r, hj => by
    rw [List.map_cons, List.nodup_cons] at hn
    have hj' : h[j]? = some r := by simpa using hj
    have hne : x.1.data.toList ≠ r.1.data.toList := fun e => hn.1 (by rw [e]; exact List.mem_map.2 ⟨r, List.mem_of_getElem? hj', rfl⟩)
    rw [fndFrom, if_neg hne, fndFrom_nodup (i + 1) hn.2 j r hj']
    congr 1
    omega
theorem once_nodup {g : List Rl} (h : ∀ (j : Nat) (r : Rl), g[j]? = some r → fnd g r.1.data.toList = (j : Int)) : (g.map fun r => r.1.data.toList).Nodup := by
  rw [List.nodup_iff_pairwise_ne, List.pairwise_iff_getElem]
  intro i j hi hj hij e
  simp only [List.length_map] at hi hj
  simp only [List.getElem_map] at e
  have h1 := h i _ (List.getElem?_eq_getElem hi)
  have h2 := h j _ (List.getElem?_eq_getElem hj)
  rw [e, h2] at h1
  omega
theorem keep_once {g : List Rl} (R : RightG g) (o : List Bool) : ∀ (j : Nat) (r : Rl), (keepR g o)[j]? = some r → fnd (keepR g o) r.1.data.toList = (j : Int) := fun j r hj => by
  have hn := (once_nodup R.once).sublist ((keepR_sub g o).map _)
  have := fndFrom_nodup 0 hn j r hj
  unfold fnd
  rw [this, Nat.zero_add]
theorem keep_sum (f : Rl → Nat) : ∀ (g : List Rl) (o : List Bool), ((keepR g o).map f).sum ≤ (g.map f).sum
  | [], o => by cases o <;> simp [keepR]
  | r :: g, [] => by simp [keepR]
  | r :: g, b :: o => by
    have := keep_sum f g o
    rw [keepR]
    split <;> simp <;> omega
theorem chk2_of {g : List Rl} (h : checkG g = 0) : chk2 g g = 0 := by
  unfold checkG at h
  split at h
  · simp at h
  split at h
  · simp at h
  split at h
  · rename_i h1; exact absurd h h1
  split at h
  · simp at h
  · exact h
theorem fnd_known {g : List Rl} (h : checkG g = 0) {r : Rl} (hr : r ∈ g) {s : ByteArray} (hs : s ∈ refsE r.2) : 0 ≤ fnd g s.data.toList := by
  refine chk2_all (chk2_of h) r hr s ?_
  unfold refsC
  rw [if_pos ((right_of h).body r hr)]
  exact hs
/-- what is kept is right, when all that is named in it is kept -/
theorem keep_right {g : List Rl} (h : checkG g = 0) {o : List Bool} (h0 : o[0]? = some true) (hcl : ∀ (i : Nat) (r : Rl), g[i]? = some r → o[i]? = some true → ∀ s ∈ refsE r.2, o[(fnd g s.data.toList).toNat]? = some true) : RightG (keepR g o) := by
  have R := right_of h
  have hsub := keepR_sub g o
  refine ⟨?_, Nat.le_trans hsub.length_le R.ten, Nat.le_trans (keep_sum _ g o) R.nodes, fun r hr => R.named r (hsub.subset hr), keep_once R o, fun r hr => R.body r (hsub.subset hr), fun r hr => ?_⟩
  · have hp := R.pos
    exact List.length_pos_of_mem (mem_keepR.2 ⟨0, List.getElem?_eq_getElem hp, h0⟩)
  · obtain ⟨i, h1, h2⟩ := mem_keepR.1 hr
    refine rt_of r.2 ⟨0, 1, R.body r (hsub.subset hr)⟩ fun s hs => ?_
    have hs' : s ∈ refsE r.2 := (mem_refsE _ _).2 hs
    obtain ⟨r', h3, h4⟩ := fnd_at (fnd_known h (hsub.subset hr) hs')
    have hm : r' ∈ keepR g o := mem_keepR.2 ⟨_, h3, hcl i r h1 h2 s hs'⟩
    obtain ⟨j, hj⟩ := List.mem_iff_getElem?.1 hm
    have := keep_once R o j r' hj
    rw [h4] at this
    omega
end Go.Proofs.Ytphfckihdhmhpaa
