/- Plain laws of the looks ahead. -/
import Derived.Test.YtapihikbdcplaaaWhE
namespace Go.Proofs.Ytapihikbdcplaaa

section
variable {g : List Rl} {s : List UInt8} {x y z a b : Ex} {p : Nat} {o : Option Nat}
theorem sem_not (h : Sem g s (ofN 11 [x]) p o) : ∃ o1, Sem g s x p o1 ∧ ((o1 = none ∧ o = some p) ∨ (o1 ≠ none ∧ o = none)) := by
  obtain ⟨o1, h1, h2⟩ := sem_one (by decide) (by decide) h
  refine ⟨o1, h1, ?_⟩
  rcases h2 with ⟨h2, h3⟩ | ⟨q, hq, h2⟩
  · exact .inl ⟨h2, by rw [h3, if_neg (by decide)]⟩
  · rcases h2 with ⟨h2, _⟩ | ⟨h2, _⟩ | ⟨h2, _⟩ | ⟨_, h2⟩
    · cases h2
    · cases h2
    · cases h2
    · exact .inr ⟨by rw [hq]; simp, h2⟩
theorem sem_and (h : Sem g s (ofN 10 [x]) p o) : ∃ o1, Sem g s x p o1 ∧ ((o1 = none ∧ o = none) ∨ (o1 ≠ none ∧ o = some p)) := by
  obtain ⟨o1, h1, h2⟩ := sem_one (by decide) (by decide) h
  refine ⟨o1, h1, ?_⟩
  rcases h2 with ⟨h2, h3⟩ | ⟨q, hq, h2⟩
  · exact .inl ⟨h2, by rw [h3, if_pos (by decide)]⟩
  · rcases h2 with ⟨h2, _⟩ | ⟨h2, _⟩ | ⟨_, h2⟩ | ⟨h2, _⟩
    · cases h2
    · cases h2
    · exact .inr ⟨by rw [hq]; simp, h2⟩
    · cases h2
theorem same_nn : SameSem g s (ofN 11 [ofN 11 [ofN 11 [a]]]) (ofN 11 [a]) := by
  intro p _ o o' h h'
  obtain ⟨o1, h1, h2⟩ := sem_not h
  obtain ⟨o2, h3, h4⟩ := sem_not h1
  obtain ⟨o3, h5, h6⟩ := sem_not h3
  obtain ⟨o4, h7, h8⟩ := sem_not h'
  obtain rfl := h5.eq h7
  rcases h8 with ⟨a1, b1⟩ | ⟨a1, b1⟩ <;> rcases h6 with ⟨a2, b2⟩ | ⟨a2, b2⟩ <;> rcases h4 with ⟨a3, b3⟩ | ⟨a3, b3⟩ <;> rcases h2 with ⟨a4, b4⟩ | ⟨a4, b4⟩ <;> simp_all
theorem same_an : SameSem g s (ofN 10 [a]) (ofN 11 [ofN 11 [a]]) := by
  intro p _ o o' h h'
  obtain ⟨o1, h1, h2⟩ := sem_and h
  obtain ⟨o2, h3, h4⟩ := sem_not h'
  obtain ⟨o3, h5, h6⟩ := sem_not h3
  obtain rfl := h1.eq h5
  rcases h6 with ⟨a2, b2⟩ | ⟨a2, b2⟩ <;> rcases h4 with ⟨a3, b3⟩ | ⟨a3, b3⟩ <;> rcases h2 with ⟨a4, b4⟩ | ⟨a4, b4⟩ <;> simp_all
theorem same_sw : SameSem g s (ofN 5 [ofN 11 [a], ofN 10 [b]]) (ofN 5 [ofN 10 [b], ofN 11 [a]]) := by
  intro p _ o o' h h'
  obtain ⟨o1, h1, h2⟩ := sem_seq h
  obtain ⟨o2, h3, h4⟩ := sem_seq h'
  have k1 : o1 = none ∨ o1 = some p := by
    obtain ⟨_, _, h | h⟩ := sem_not h1
    · exact .inr h.2
    · exact .inl h.2
  have k2 : o2 = none ∨ o2 = some p := by
    obtain ⟨_, _, h | h⟩ := sem_and h3
    · exact .inl h.2
    · exact .inr h.2
  rcases k1 with rfl | rfl <;> rcases k2 with rfl | rfl
  · rcases h2 with ⟨_, rfl⟩ | ⟨q, hq, _⟩
    · rcases h4 with ⟨_, rfl⟩ | ⟨q, hq, _⟩
      · rfl
      · cases hq
    · cases hq
  · rcases h2 with ⟨_, rfl⟩ | ⟨q, hq, _⟩
    · rcases h4 with ⟨hq, _⟩ | ⟨q, hq, h4⟩
      · cases hq
      · injection hq with hq; subst hq
        exact h1.eq h4
    · cases hq
  · rcases h4 with ⟨_, rfl⟩ | ⟨q, hq, _⟩
    · rcases h2 with ⟨hq, _⟩ | ⟨q, hq, h2⟩
      · cases hq
      · injection hq with hq; subst hq
        exact h2.eq h3
    · cases hq
  · rcases h4 with ⟨hq, _⟩ | ⟨q, hq, h4⟩
    · cases hq
    · rcases h2 with ⟨hq2, _⟩ | ⟨q2, hq2, h2⟩
      · cases hq2
      · injection hq with hq; subst hq
        injection hq2 with hq2; subst hq2
        rw [h2.eq h3, h4.eq h1]
theorem same_tn {t : ByteArray} {ks : List Ex} {x1 x2 x3 x4 : Int} : SameSem g s (ofN 6 [ofN 10 [a], ofN 11 [a]]) (.mk 1 x1 x2 x3 x4 t ks) := by
  intro p _ o o' h h'
  have he := sem_empty h'
  subst he
  obtain ⟨o1, h1, h2⟩ := sem_alt h
  obtain ⟨o2, h3, h4⟩ := sem_and h1
  rcases h4 with ⟨rfl, rfl⟩ | ⟨hn, rfl⟩
  · rcases h2 with ⟨_, h2⟩ | ⟨q, hq, _⟩
    · obtain ⟨o3, h5, h6⟩ := sem_not h2
      obtain rfl := h3.eq h5
      rcases h6 with ⟨_, h6⟩ | ⟨h6, _⟩
      · exact h6
      · exact absurd rfl h6
    · cases hq
  · rcases h2 with ⟨hq, _⟩ | ⟨q, hq, rfl⟩
    · cases hq
    · exact hq.symm
end
end Go.Proofs.Ytapihikbdcplaaa
