/- Signs of a text and where they begin: plain. -/
import Derived.Test.YtmikpogmklindaaDoorStr1
import Derived.Lib.DecodeN
namespace Go.Proofs.YtmikpogmklindaaDoor
open Go.RowKit

/-- how many bytes the first sign has -/
def wd (l : List UInt8) : Nat := (Lib.decodeN l.length (bt l 0) (bt l 1) (bt l 2) (bt l 3)).2
theorem dec_rng (n b0 b1 b2 b3 : Nat) : 1 ≤ (Lib.decodeN n b0 b1 b2 b3).2 ∧ ((Lib.decodeN n b0 b1 b2 b3).2 = 1 ∨ (Lib.decodeN n b0 b1 b2 b3).2 ≤ n) := by
  unfold Lib.decodeN
  repeat' split
  all_goals refine ⟨by simp only; omega, ?_⟩
  all_goals first | exact .inl rfl | (right; simp only; omega)
theorem dec_cont (n b0 b1 b2 b3 : Nat) : (1 < (Lib.decodeN n b0 b1 b2 b3).2 → 128 ≤ b1) ∧ (2 < (Lib.decodeN n b0 b1 b2 b3).2 → 128 ≤ b2) ∧ (3 < (Lib.decodeN n b0 b1 b2 b3).2 → 128 ≤ b3) ∧ (Lib.decodeN n b0 b1 b2 b3).2 ≤ 4 := by
  unfold Lib.decodeN
  repeat' split
  all_goals simp only
  all_goals omega
theorem wd_pos (l : List UInt8) : 1 ≤ wd l := (dec_rng _ _ _ _ _).1
theorem wd_le {l : List UInt8} (h : l ≠ []) : wd l ≤ l.length := by
  have h1 := (dec_rng l.length (bt l 0) (bt l 1) (bt l 2) (bt l 3)).2
  have h2 : 0 < l.length := List.length_pos_iff.2 h
  unfold wd
  omega
theorem wd_cont {l : List UInt8} {i : Nat} (h1 : 1 ≤ i) (h2 : i < wd l) : 128 ≤ bt l i := by
  obtain ⟨c1, c2, c3, c4⟩ := dec_cont l.length (bt l 0) (bt l 1) (bt l 2) (bt l 3)
  unfold wd at h2
  rcases (show i = 1 ∨ i = 2 ∨ i = 3 by omega) with rfl | rfl | rfl
  · exact c1 (by omega)
  · exact c2 (by omega)
  · exact c3 (by omega)
theorem dec_cut1 (n b0 b1 b2 b3 : Nat) (h : (Lib.decodeN n b0 b1 b2 b3).2 ≤ 1) : (Lib.decodeN 1 b0 0 0 0).2 = (Lib.decodeN n b0 b1 b2 b3).2 := by
  have h1 := (dec_rng n b0 b1 b2 b3).1
  have h2 := dec_rng 1 b0 0 0 0
  omega
theorem dec_cut2 (n b0 b1 b2 b3 : Nat) (hn : 2 ≤ n) (h : (Lib.decodeN n b0 b1 b2 b3).2 ≤ 2) : (Lib.decodeN 2 b0 b1 0 0).2 = (Lib.decodeN n b0 b1 b2 b3).2 := by
  unfold Lib.decodeN at *
  repeat' split at h
  all_goals repeat' split
  all_goals simp only at h ⊢
  all_goals omega
theorem dec_cut3 (n b0 b1 b2 b3 : Nat) (hn : 3 ≤ n) (h : (Lib.decodeN n b0 b1 b2 b3).2 ≤ 3) : (Lib.decodeN 3 b0 b1 b2 0).2 = (Lib.decodeN n b0 b1 b2 b3).2 := by
  unfold Lib.decodeN at *
  repeat' split at h
  all_goals repeat' split
  all_goals simp only at h ⊢
  all_goals omega
theorem dec_cut4 (n m b0 b1 b2 b3 : Nat) (hn : 4 ≤ n) (hm : 4 ≤ m) : Lib.decodeN m b0 b1 b2 b3 = Lib.decodeN n b0 b1 b2 b3 := by
  have c1 : (1 < n) = (1 < m) := propext ⟨fun _ => by omega, fun _ => by omega⟩
  have c2 : (2 < n) = (2 < m) := propext ⟨fun _ => by omega, fun _ => by omega⟩
  have c3 : (3 < n) = (3 < m) := propext ⟨fun _ => by omega, fun _ => by omega⟩
  unfold Lib.decodeN
  simp only [c1, c2, c3]
theorem bt_take (l : List UInt8) (m i : Nat) : bt (l.take m) i = if i < m then bt l i else 0 := by
  unfold bt
  rw [List.getD_eq_getElem?_getD, List.getD_eq_getElem?_getD, List.getElem?_take]
  split
  · rfl
  · simp
/-- what is cut off behind the sign makes no odds -/
theorem wd_take {l : List UInt8} {m : Nat} (h1 : 1 ≤ m) (hm : m ≤ l.length) (h : wd l ≤ m) : wd (l.take m) = wd l := by
  unfold wd at *
  rw [List.length_take, Nat.min_eq_left hm]
  simp only [bt_take]
  rcases (show m = 1 ∨ m = 2 ∨ m = 3 ∨ 4 ≤ m by omega) with rfl | rfl | rfl | h4
  · exact dec_cut1 _ _ _ _ _ h
  · exact dec_cut2 _ _ _ _ _ hm h
  · exact dec_cut3 _ _ _ _ _ hm h
  · rw [if_pos (by omega), if_pos (by omega), if_pos (by omega), if_pos (by omega), dec_cut4 l.length m _ _ _ _ (by omega) h4]

/-- how many signs -/
def cntF : Nat → List UInt8 → Nat
  | 0, _ => 0
  | _ + 1, [] => 0
  | f + 1, c :: l => 1 + cntF f ((c :: l).drop (wd (c :: l)))
def cntS (l : List UInt8) : Nat := cntF l.length l
theorem cntF_nil (f : Nat) : cntF f [] = 0 := by cases f <;> rfl
/-- from one sign's place to another's in so many signs -/
inductive St (l : List UInt8) : Nat → Nat → Nat → Prop
  | nil (p : Nat) : St l p p 0
  | cons (p q k : Nat) : p < l.length → St l (p + wd (l.drop p)) q k → St l p q (k + 1)
section
variable {l : List UInt8}
theorem drop_ne {p : Nat} (h : p < l.length) : l.drop p ≠ [] := fun e => by
  have := congrArg List.length e
  rw [List.length_drop] at this
  simp at this
  omega
theorem step_le {p : Nat} (h : p < l.length) : p + wd (l.drop p) ≤ l.length := by
  have := wd_le (drop_ne h)
  rw [List.length_drop] at this
  omega
theorem St.le {p q k : Nat} (h : St l p q k) : p + k ≤ q ∧ (p ≤ l.length → q ≤ l.length) := by
  induction h with
  | nil p => exact ⟨by omega, fun h => h⟩
  | cons p q k hp _ ih =>
    have := wd_pos (l.drop p)
    exact ⟨by omega, fun _ => ih.2 (step_le hp)⟩
theorem St.cnt {p q k : Nat} (h : St l p q k) : p ≤ l.length → ∀ f, q - p ≤ f → cntF f ((l.drop p).take (q - p)) = k := by
  induction h with
  | nil p => intro _ f _; rw [Nat.sub_self, List.take_zero, cntF_nil]
  | cons p q k hp h ih =>
    intro _ f hf
    have hl := h.le
    have hw := wd_pos (l.drop p)
    have hs := step_le hp
    have hq := hl.2 hs
    obtain ⟨f, rfl⟩ : ∃ g, f = g + 1 := ⟨f - 1, by omega⟩
    have hne : (l.drop p).take (q - p) ≠ [] := fun e => by
      have := congrArg List.length e
      rw [List.length_take, List.length_drop] at this
      simp at this
      omega
    have hwt : wd ((l.drop p).take (q - p)) = wd (l.drop p) := wd_take (by omega) (by rw [List.length_drop]; omega) (by omega)
    have hih := ih hs f (by omega)
    generalize hT : (l.drop p).take (q - p) = T at hne hwt
    cases T with
    | nil => exact absurd rfl hne
    | cons c t =>
      rw [cntF, hwt, ← hT, List.drop_take, List.drop_drop]
      rw [show q - p - wd (l.drop p) = q - (p + wd (l.drop p)) by omega, hih]
      omega
theorem St.cntS {p q k : Nat} (h : St l p q k) (hp : p ≤ l.length) : cntS ((l.drop p).take (q - p)) = k := by
  have h1 := h.le
  have h2 := h1.2 hp
  exact h.cnt hp _ (by rw [List.length_take, List.length_drop]; omega)
theorem St.app {p q r k k' : Nat} (h : St l p q k) (h' : St l q r k') : St l p r (k + k') := by
  induction h with
  | nil p => rw [Nat.zero_add]; exact h'
  | cons p q k hp _ ih => rw [show k + 1 + k' = k + k' + 1 by omega]; exact .cons _ _ _ hp (ih h')
theorem St.lt {p q k : Nat} (h : St l p q k) : ∀ {q' k' : Nat}, St l p q' k' → q < q' → k < k' := by
  induction h with
  | nil p =>
    intro q' k' h' hq
    cases h' with
    | nil => omega
    | cons => omega
  | cons p q k hp h ih =>
    intro q' k' h' hq
    cases h' with
    | nil =>
      have := h.le.1
      have := wd_pos (l.drop p)
      omega
    | cons _ _ k' _ h' =>
      have := ih h' hq
      omega
/-- of two signs' places the one behind is come to from the other -/
theorem St.part {p q k : Nat} (h : St l p q k) : ∀ {r k' : Nat}, St l p r k' → q ≤ r → ∃ j, St l q r j := by
  induction h with
  | nil p => exact fun h' _ => ⟨_, h'⟩
  | cons p q k hp h ih =>
    intro r k' h' hq
    cases h' with
    | nil =>
      have := h.le.1
      have := wd_pos (l.drop p)
      omega
    | cons _ _ k' _ h' => exact ih h' hq
/-- a byte below 128 is a sign -/
theorem St.ascii {p : Nat} (hp : p < l.length) (ha : bt l p < 128) : ∀ (n q : Nat), p - q ≤ n → q ≤ p → ∃ k, St l q p k := by
  intro n
  induction n with
  | zero =>
    intro q h1 h2
    obtain rfl : q = p := by omega
    exact ⟨0, .nil _⟩
  | succ n ih =>
    intro q h1 h2
    by_cases hq : q = p
    · subst hq; exact ⟨0, .nil _⟩
    · have hw := wd_pos (l.drop q)
      by_cases hs : q + wd (l.drop q) ≤ p
      · obtain ⟨k, hk⟩ := ih (q + wd (l.drop q)) (by omega) hs
        exact ⟨k + 1, .cons _ _ _ (by omega) hk⟩
      · have := wd_cont (l := l.drop q) (i := p - q) (by omega) (by omega)
        unfold bt at this ha
        rw [List.getD_eq_getElem?_getD, List.getElem?_drop, show q + (p - q) = p by omega, ← List.getD_eq_getElem?_getD] at this
        omega
theorem wd_ascii {l : List UInt8} (h : bt l 0 < 128) : wd l = 1 := by
  unfold wd Lib.decodeN
  rw [if_pos h]
end
end Go.Proofs.YtmikpogmklindaaDoor
