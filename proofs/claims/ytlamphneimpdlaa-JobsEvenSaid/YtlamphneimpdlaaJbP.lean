/- Jobs, plain: what a turn of a job does, and what it comes to in the end. -/
import Derived.Test.YtlamphneimpdlaaLsY
namespace Go.Proofs.Ytlamphneimpdlaa
open Go.RowKit

/-- how far a job is -/
structure Jst where
  found : List ByteArray
  cur : Cur
  left : Nat
/-- has it no more to do? -/
def overJ (x : Jst) : Bool := x.cur.2 || x.left == 0
/-- so much at most -/
noncomputable def workJ (acc : ByteArray → Bool) (a : List UInt8) (n s : Nat) (x : Jst) : Jst :=
  ⟨x.found ++ (listL acc a n x.cur (min s x.left)).1, (listL acc a n x.cur (min s x.left)).2, x.left - min s x.left⟩
/-- a turn -/
noncomputable def turnJ (acc : ByteArray → Bool) (a : List UInt8) (n s : Nat) (x : Jst) : Jst :=
  if overJ x = true then x else workJ acc a n s x
noncomputable def turnsJ (acc : ByteArray → Bool) (a : List UInt8) (n s : Nat) : Nat → Jst → Jst
  | 0, x => x
  | r + 1, x => turnJ acc a n s (turnsJ acc a n s r x)
def startJ (b : Nat) : Jst := ⟨[], (⟨#[]⟩, false), b⟩
theorem turns_inv {acc : ByteArray → Bool} {a : List UInt8} {n s B : Nat} (ha : AlphaOk a) (hn : n ≤ 6) : ∀ r, ∃ b, b ≤ B ∧ (turnsJ acc a n s r (startJ B)).left = B - b ∧
    listL acc a n (⟨#[]⟩, false) b = ((turnsJ acc a n s r (startJ B)).found, (turnsJ acc a n s r (startJ B)).cur) ∧ (b = min B (r * s) ∨ (turnsJ acc a n s r (startJ B)).cur.2 = true)
  | 0 => ⟨0, Nat.zero_le _, by simp [turnsJ, startJ], listL_zero ha, .inl (by simp)⟩
  | r + 1 => by
    obtain ⟨b, h1, h2, h3, h4⟩ := turns_inv (acc := acc) (s := s) (B := B) ha hn r
    unfold turnsJ
    generalize turnsJ acc a n s r (startJ B) = x at h2 h3 h4
    obtain ⟨f, c, l⟩ := x
    simp only at h2 h3 h4
    unfold turnJ overJ
    by_cases ho : c.2 = true
    · rw [if_pos (by simp [ho])]
      exact ⟨b, h1, h2, h3, .inr ho⟩
    · by_cases hl : l = 0
      · rw [if_pos (by simp [hl])]
        refine ⟨b, h1, h2, h3, .inl ?_⟩
        rcases h4 with h4 | h4
        · have : (r + 1) * s = r * s + s := Nat.succ_mul r s
          omega
        · exact absurd h4 ho
      · rw [if_neg (by simp [ho, hl])]
        rcases h4 with h4 | h4
        · obtain ⟨s1, s2⟩ := listL_step (acc := acc) (k := n) ha hn b (min s l)
          rw [h3] at s1 s2
          simp only at s1 s2
          refine ⟨b + min s l, by omega, by show l - min s l = _; omega, Prod.ext s1.symm s2.symm, .inl ?_⟩
          have : (r + 1) * s = r * s + s := Nat.succ_mul r s
          omega
        · exact absurd h4 ho
/-- in the end it is what the list by itself is -/
theorem turns_even {acc : ByteArray → Bool} {a : List UInt8} {n s B r : Nat} (ha : AlphaOk a) (hn : n ≤ 6) (h : B ≤ r * s ∨ shN a.length (n + 1) ≤ r * s) :
    ((turnsJ acc a n s r (startJ B)).found, (turnsJ acc a n s r (startJ B)).cur) = listL acc a n (⟨#[]⟩, false) B := by
  obtain ⟨b, h1, _, h3, h4⟩ := turns_inv (acc := acc) (s := s) (B := B) ha hn r
  rw [← h3]
  rcases h4 with h4 | h4
  · by_cases hb : B ≤ r * s
    · rw [show b = B by omega]
    · have h5 : shN a.length (n + 1) ≤ r * s := h.resolve_left hb
      rw [listL_all (show shN a.length (n + 1) ≤ b by omega), listL_all (show shN a.length (n + 1) ≤ B by omega)]
  · obtain ⟨s1, s2⟩ := listL_step (acc := acc) (k := n) ha hn b (B - b)
    rw [show b + (B - b) = B by omega] at s1 s2
    rw [h3] at s1 s2 ⊢
    simp only at s1 s2
    rw [listL_over h4] at s1 s2
    simp only [List.append_nil] at s1 s2
    exact Prod.ext s1 s2
theorem turns_cur {acc : ByteArray → Bool} {a : List UInt8} {n s B r : Nat} (ha : AlphaOk a) (hn : n ≤ 6) : CurOk a n (turnsJ acc a n s r (startJ B)).cur := by
  obtain ⟨b, _, _, h3, _⟩ := turns_inv (acc := acc) (s := s) (B := B) ha hn r
  have := listL_ok (acc := acc) (b := b) hn (cur_start ha n)
  rw [h3] at this
  exact this
theorem turns_left {acc : ByteArray → Bool} {a : List UInt8} {n s B r : Nat} (ha : AlphaOk a) (hn : n ≤ 6) : (turnsJ acc a n s r (startJ B)).left ≤ B := by
  obtain ⟨b, _, h2, _⟩ := turns_inv (acc := acc) (s := s) (B := B) ha hn r
  omega
theorem turns_len {acc : ByteArray → Bool} {a : List UInt8} {n s B r : Nat} (ha : AlphaOk a) (hn : n ≤ 6) : (turnsJ acc a n s r (startJ B)).found.length ≤ shN a.length (n + 1) := by
  obtain ⟨b, _, _, h3, _⟩ := turns_inv (acc := acc) (s := s) (B := B) ha hn r
  have := listL_len (acc := acc) (a := a) (k := n) (⟨#[]⟩, false) b
  rw [h3] at this
  exact this
end Go.Proofs.Ytlamphneimpdlaa
