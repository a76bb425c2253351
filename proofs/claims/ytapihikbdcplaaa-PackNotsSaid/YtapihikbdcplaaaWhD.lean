/- What built expressions mean; plain laws of sequences, alternatives, stars. -/
import Derived.Test.YtapihikbdcplaaaWhC
namespace Go.Proofs.Ytapihikbdcplaaa

section
variable {g : List Rl} {s : List UInt8} {x y z : Ex} {p : Nat} {o : Option Nat}
def SemR (g : List Rl) (s : List UInt8) (e : Ex) (p : Nat) (o : Option Nat) : Prop := ∃ n, evR g s n e p = some o
theorem SemR.eq {o' : Option Nat} (h : SemR g s x p o) (h' : SemR g s x p o') : o = o' := by
  obtain ⟨n, h⟩ := h
  obtain ⟨m, h'⟩ := h'
  have h1 := evR_le h (Nat.le_max_left n m)
  have h2 := evR_le h' (Nat.le_max_right n m)
  rw [h1] at h2
  injection h2
theorem sem_empty {a b c d : Int} {t : ByteArray} {ks : List Ex} (h : Sem g s (.mk 1 a b c d t ks) p o) : o = some p := by
  obtain ⟨n, h⟩ := h
  cases n with
  | zero => cases h
  | succ n => rw [ev_s, if_pos rfl] at h; injection h with h; exact h.symm
theorem sem_seq (h : Sem g s (ofN 5 [x, y]) p o) : ∃ o1, Sem g s x p o1 ∧ ((o1 = none ∧ o = none) ∨ ∃ q, o1 = some q ∧ Sem g s y q o) := by
  obtain ⟨n, h⟩ := h
  unfold ofN at h
  cases n with
  | zero => cases h
  | succ n =>
    rw [ev_s, if_neg (by decide), if_neg (by decide), if_neg (by decide), if_neg (by decide), if_pos rfl] at h
    cases n with
    | zero => cases h
    | succ n =>
      rw [evS_cons] at h
      cases hx : ev g s n x p with
      | none => rw [hx] at h; cases h
      | some o1 =>
        rw [hx] at h
        refine ⟨o1, ⟨n, hx⟩, ?_⟩
        cases o1 with
        | none => injection h with h; exact .inl ⟨rfl, h.symm⟩
        | some q =>
          refine .inr ⟨q, rfl, ?_⟩
          simp only at h
          cases n with
          | zero => cases h
          | succ n =>
            rw [evS_cons] at h
            cases hy : ev g s n y q with
            | none => rw [hy] at h; cases h
            | some o2 =>
              rw [hy] at h
              cases o2 with
              | none => injection h with h; subst h; exact ⟨n, hy⟩
              | some q2 =>
                simp only at h
                cases n with
                | zero => cases h
                | succ n => rw [evS_nil] at h; injection h with h; subst h; exact ⟨_, hy⟩
theorem sem_alt (h : Sem g s (ofN 6 [x, y]) p o) : ∃ o1, Sem g s x p o1 ∧ ((o1 = none ∧ Sem g s y p o) ∨ ∃ q, o1 = some q ∧ o = some q) := by
  obtain ⟨n, h⟩ := h
  unfold ofN at h
  cases n with
  | zero => cases h
  | succ n =>
    rw [ev_s, if_neg (by decide), if_neg (by decide), if_neg (by decide), if_neg (by decide), if_neg (by decide), if_pos rfl] at h
    cases n with
    | zero => cases h
    | succ n =>
      rw [evA_cons] at h
      cases hx : ev g s n x p with
      | none => rw [hx] at h; cases h
      | some o1 =>
        rw [hx] at h
        refine ⟨o1, ⟨n, hx⟩, ?_⟩
        cases o1 with
        | some q => injection h with h; exact .inr ⟨q, rfl, h.symm⟩
        | none =>
          refine .inl ⟨rfl, ?_⟩
          simp only at h
          cases n with
          | zero => cases h
          | succ n =>
            rw [evA_cons] at h
            cases hy : ev g s n y p with
            | none => rw [hy] at h; cases h
            | some o2 =>
              rw [hy] at h
              cases o2 with
              | some q2 => injection h with h; subst h; exact ⟨n, hy⟩
              | none =>
                simp only at h
                cases n with
                | zero => cases h
                | succ n => rw [evA_nil] at h; injection h with h; subst h; exact ⟨_, hy⟩
theorem sem_kid {k : Int} (h7 : 7 ≤ k) (h11 : k ≤ 11) (h : Sem g s (ofN k [x]) p o) : ∃ n, evK g s n k x p = some o := by
  obtain ⟨n, h⟩ := h
  unfold ofN at h
  cases n with
  | zero => cases h
  | succ n =>
    rw [ev_s, if_neg (by omega), if_neg (by omega), if_neg (by omega), if_neg (by omega), if_neg (by omega), if_neg (by omega)] at h
    exact ⟨n, h⟩
theorem sem_star (h : Sem g s (ofN 7 [x]) p o) : SemR g s x p o := by
  obtain ⟨n, h⟩ := sem_kid (by decide) (by decide) h
  cases n with
  | zero => cases h
  | succ n => rw [evK_s, if_pos rfl] at h; exact ⟨n, h⟩
theorem sem_rep (h : SemR g s x p o) : ∃ o1, Sem g s x p o1 ∧ ((o1 = none ∧ o = some p) ∨ ∃ q, o1 = some q ∧ SemR g s x q o) := by
  obtain ⟨n, h⟩ := h
  cases n with
  | zero => cases h
  | succ n =>
    rw [evR_s] at h
    cases hx : ev g s n x p with
    | none => rw [hx] at h; cases h
    | some o1 =>
      rw [hx] at h
      refine ⟨o1, ⟨n, hx⟩, ?_⟩
      cases o1 with
      | none => injection h with h; exact .inl ⟨rfl, h.symm⟩
      | some q => exact .inr ⟨q, rfl, n, h⟩
theorem sem_one {k : Int} (h8 : 8 ≤ k) (h11 : k ≤ 11) (h : Sem g s (ofN k [x]) p o) : ∃ o1, Sem g s x p o1 ∧ ((o1 = none ∧ o = if k = 8 ∨ k = 10 then none else some p) ∨ ∃ q, o1 = some q ∧ ((k = 8 ∧ SemR g s x q o) ∨ (k = 9 ∧ o = some q) ∨ (k = 10 ∧ o = some p) ∨ (k = 11 ∧ o = none))) := by
  obtain ⟨n, h⟩ := sem_kid (by omega) h11 h
  cases n with
  | zero => cases h
  | succ n =>
    rw [evK_s, if_neg (by omega)] at h
    cases hx : ev g s n x p with
    | none => rw [hx] at h; cases h
    | some o1 =>
      rw [hx] at h
      refine ⟨o1, ⟨n, hx⟩, ?_⟩
      cases o1 with
      | none => injection h with h; exact .inl ⟨rfl, h.symm⟩
      | some q =>
        refine .inr ⟨q, rfl, ?_⟩
        simp only at h
        rcases (by omega : k = 8 ∨ k = 9 ∨ k = 10 ∨ k = 11) with rfl | rfl | rfl | rfl
        · exact .inl ⟨rfl, n, h⟩
        · rw [if_neg (by decide), if_pos rfl] at h; injection h with h; exact .inr (.inl ⟨rfl, h.symm⟩)
        · rw [if_neg (by decide), if_neg (by decide), if_pos rfl] at h; injection h with h; exact .inr (.inr (.inl ⟨rfl, h.symm⟩))
        · rw [if_neg (by decide), if_neg (by decide), if_neg (by decide)] at h; injection h with h; exact .inr (.inr (.inr ⟨rfl, h.symm⟩))
end

/-- two expressions do the same, where both come to an end -/
def SameSem (g : List Rl) (s : List UInt8) (a b : Ex) : Prop := ∀ p, p ≤ s.length → ∀ o o', Sem g s a p o → Sem g s b p o' → o = o'
section
variable {g : List Rl} {s : List UInt8} {a b c : Ex}
theorem same_seq : SameSem g s (ofN 5 [ofN 5 [a, b], c]) (ofN 5 [a, ofN 5 [b, c]]) := by
  intro p _ o o' h h'
  obtain ⟨o1, h1, h2⟩ := sem_seq h
  obtain ⟨o2, h3, h4⟩ := sem_seq h1
  obtain ⟨o3, h5, h6⟩ := sem_seq h'
  obtain rfl := h3.eq h5
  rcases h4 with ⟨rfl, rfl⟩ | ⟨q, rfl, h4⟩
  · rcases h2 with ⟨_, rfl⟩ | ⟨q, hq, _⟩
    · rcases h6 with ⟨_, rfl⟩ | ⟨q, hq, _⟩
      · rfl
      · cases hq
    · cases hq
  · rcases h6 with ⟨hq, _⟩ | ⟨q', hq, h6⟩
    · cases hq
    · injection hq with hq
      subst hq
      obtain ⟨o5, h7, h8⟩ := sem_seq h6
      obtain rfl := h4.eq h7
      rcases h2 with ⟨rfl, rfl⟩ | ⟨r, rfl, h2⟩
      · rcases h8 with ⟨_, rfl⟩ | ⟨r, hr, _⟩
        · rfl
        · cases hr
      · rcases h8 with ⟨hr, _⟩ | ⟨r', hr, h8⟩
        · cases hr
        · injection hr with hr
          subst hr
          exact h2.eq h8
theorem same_alt : SameSem g s (ofN 6 [ofN 6 [a, b], c]) (ofN 6 [a, ofN 6 [b, c]]) := by
  intro p _ o o' h h'
  obtain ⟨o1, h1, h2⟩ := sem_alt h
  obtain ⟨o2, h3, h4⟩ := sem_alt h1
  obtain ⟨o3, h5, h6⟩ := sem_alt h'
  obtain rfl := h3.eq h5
  rcases h4 with ⟨rfl, h4⟩ | ⟨q, rfl, rfl⟩
  · rcases h6 with ⟨_, h6⟩ | ⟨q, hq, _⟩
    · obtain ⟨o5, h7, h8⟩ := sem_alt h6
      obtain rfl := h4.eq h7
      rcases h2 with ⟨rfl, h2⟩ | ⟨q, rfl, rfl⟩
      · rcases h8 with ⟨_, h8⟩ | ⟨q, hq, _⟩
        · exact h2.eq h8
        · cases hq
      · rcases h8 with ⟨hq, _⟩ | ⟨q', hq, rfl⟩
        · cases hq
        · exact hq
    · cases hq
  · rcases h2 with ⟨hq, _⟩ | ⟨q', hq, rfl⟩
    · cases hq
    · rcases h6 with ⟨hq', _⟩ | ⟨q2, hq', rfl⟩
      · cases hq'
      · exact hq.symm.trans hq'
theorem same_opt {t : ByteArray} {ks : List Ex} {x1 x2 x3 x4 : Int} : SameSem g s (ofN 5 [ofN 9 [a], .mk 1 x1 x2 x3 x4 t ks]) (ofN 9 [a]) := by
  intro p _ o o' h h'
  obtain ⟨o1, h1, h2⟩ := sem_seq h
  obtain rfl := h1.eq h'
  rcases h2 with ⟨rfl, rfl⟩ | ⟨q, rfl, h2⟩
  · rfl
  · exact sem_empty h2
theorem same_spread : SameSem g s (ofN 5 [a, ofN 6 [b, c]]) (ofN 6 [ofN 5 [a, b], ofN 5 [a, c]]) := by
  intro p _ o o' h h'
  obtain ⟨o1, h1, h2⟩ := sem_seq h
  obtain ⟨o2, h3, h4⟩ := sem_alt h'
  obtain ⟨o3, h5, h6⟩ := sem_seq h3
  obtain rfl := h1.eq h5
  rcases h2 with ⟨rfl, rfl⟩ | ⟨q, rfl, h2⟩
  · rcases h6 with ⟨_, rfl⟩ | ⟨q, hq, _⟩
    · rcases h4 with ⟨_, h4⟩ | ⟨q, hq, _⟩
      · obtain ⟨o4, h7, h8⟩ := sem_seq h4
        obtain rfl := h1.eq h7
        rcases h8 with ⟨_, rfl⟩ | ⟨q, hq, _⟩
        · rfl
        · cases hq
      · cases hq
    · cases hq
  · rcases h6 with ⟨hq, _⟩ | ⟨q', hq, h6⟩
    · cases hq
    · injection hq with hq
      subst hq
      obtain ⟨o4, h7, h8⟩ := sem_alt h2
      obtain rfl := h6.eq h7
      rcases h8 with ⟨rfl, h8⟩ | ⟨r, rfl, rfl⟩
      · rcases h4 with ⟨_, h4⟩ | ⟨r, hr, _⟩
        · obtain ⟨o5, h9, h10⟩ := sem_seq h4
          obtain rfl := h1.eq h9
          rcases h10 with ⟨hr, _⟩ | ⟨r, hr, h10⟩
          · cases hr
          · injection hr with hr
            subst hr
            exact h8.eq h10
        · cases hr
      · rcases h4 with ⟨hr, _⟩ | ⟨r', hr, rfl⟩
        · cases hr
        · exact hr
theorem same_once : SameSem g s (ofN 6 [a, ofN 6 [a, b]]) (ofN 6 [a, b]) := by
  intro p _ o o' h h'
  obtain ⟨o1, h1, h2⟩ := sem_alt h
  obtain ⟨o2, h3, h4⟩ := sem_alt h'
  obtain rfl := h1.eq h3
  rcases h2 with ⟨rfl, h2⟩ | ⟨q, rfl, rfl⟩
  · rcases h4 with ⟨_, h4⟩ | ⟨q, hq, _⟩
    · obtain ⟨o3, h5, h6⟩ := sem_alt h2
      obtain rfl := h1.eq h5
      rcases h6 with ⟨_, h6⟩ | ⟨q, hq, _⟩
      · exact h6.eq h4
      · cases hq
    · cases hq
  · rcases h4 with ⟨hq, _⟩ | ⟨q', hq, rfl⟩
    · cases hq
    · exact hq
theorem same_star {t : ByteArray} {ks : List Ex} {x1 x2 x3 x4 : Int} : SameSem g s (ofN 7 [a]) (ofN 6 [ofN 5 [a, ofN 7 [a]], .mk 1 x1 x2 x3 x4 t ks]) := by
  intro p _ o o' h h'
  obtain ⟨o1, h1, h2⟩ := sem_rep (sem_star h)
  obtain ⟨o2, h3, h4⟩ := sem_alt h'
  obtain ⟨o3, h5, h6⟩ := sem_seq h3
  obtain rfl := h1.eq h5
  rcases h2 with ⟨rfl, rfl⟩ | ⟨q, rfl, h2⟩
  · rcases h6 with ⟨_, rfl⟩ | ⟨q, hq, _⟩
    · rcases h4 with ⟨_, h4⟩ | ⟨q, hq, _⟩
      · exact (sem_empty h4).symm
      · cases hq
    · cases hq
  · rcases h6 with ⟨hq, _⟩ | ⟨q', hq, h6⟩
    · cases hq
    · injection hq with hq
      subst hq
      have hr := sem_star h6
      obtain rfl := h2.eq hr
      rcases h4 with ⟨rfl, _⟩ | ⟨r, rfl, rfl⟩
      · exfalso
        have hne : ∀ n p o, evR g s n a p = some o → o ≠ none := by
          intro n
          induction n with
          | zero => intro p o h; cases h
          | succ n ih =>
            intro p o h
            rw [evR_s] at h
            cases hx : ev g s n a p with
            | none => rw [hx] at h; cases h
            | some u =>
              rw [hx] at h
              cases u with
              | none => injection h with h; subst h; simp
              | some q => exact ih q o h
        obtain ⟨n, hn⟩ := h2
        exact hne n _ _ hn rfl
      · rfl
theorem same_plus : SameSem g s (ofN 8 [a]) (ofN 5 [a, ofN 7 [a]]) := by
  intro p _ o o' h h'
  obtain ⟨o1, h1, h2⟩ := sem_one (by decide) (by decide) h
  obtain ⟨o3, h5, h6⟩ := sem_seq h'
  obtain rfl := h1.eq h5
  rcases h2 with ⟨rfl, rfl⟩ | ⟨q, rfl, h2⟩
  · rcases h6 with ⟨_, rfl⟩ | ⟨q, hq, _⟩
    · rfl
    · cases hq
  · rcases h6 with ⟨hq, _⟩ | ⟨q', hq, h6⟩
    · cases hq
    · injection hq with hq
      subst hq
      rcases h2 with ⟨_, h2⟩ | ⟨h2, _⟩ | ⟨h2, _⟩ | ⟨h2, _⟩
      · exact h2.eq (sem_star h6)
      · cases h2
      · cases h2
      · cases h2
theorem same_never {t : ByteArray} {ks : List Ex} {x1 x2 x3 x4 : Int} : SameSem g s (ofN 5 [ofN 7 [a], a]) (ofN 11 [.mk 1 x1 x2 x3 x4 t ks]) := by
  intro p _ o o' h h'
  obtain ⟨o1, h1, h2⟩ := sem_seq h
  obtain ⟨o3, h5, h6⟩ := sem_one (by decide) (by decide) h'
  have he := sem_empty h5
  subst he
  have ho' : o' = none := by
    rcases h6 with ⟨hq, _⟩ | ⟨q, hq, h6⟩
    · cases hq
    · rcases h6 with ⟨h6, _⟩ | ⟨h6, _⟩ | ⟨h6, _⟩ | ⟨_, h6⟩
      · cases h6
      · cases h6
      · cases h6
      · exact h6
  subst ho'
  have hend : ∀ n p q, evR g s n a p = some (some q) → ∃ m, ev g s m a q = some none := by
    intro n
    induction n with
    | zero => intro p q h; cases h
    | succ n ih =>
      intro p q h
      rw [evR_s] at h
      cases hx : ev g s n a p with
      | none => rw [hx] at h; cases h
      | some u =>
        rw [hx] at h
        cases u with
        | none =>
          simp only [Option.some.injEq] at h
          subst h
          exact ⟨n, hx⟩
        | some r => exact ih r q h
  rcases h2 with ⟨_, rfl⟩ | ⟨q, rfl, h2⟩
  · rfl
  · obtain ⟨n, hn⟩ := sem_star h1
    obtain ⟨m, hm⟩ := hend n p q hn
    exact h2.eq ⟨m, hm⟩
end
end Go.Proofs.Ytapihikbdcplaaa
