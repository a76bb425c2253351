/- What is in a set, the first that is, and how many: plain. -/
import Derived.Test.YtndhbdbfjkmloaaDoorSetP
import Derived.Test.YtndhbdbfjkmloaaDoorSetB
import Derived.Lib.TrailingZeros
namespace Go.Proofs.YtndhbdbfjkmloaaDoor

def cnt (l : List Nat) : Nat → Nat
  | 0 => 0
  | f + 1 => cnt l f + if hasN l f then 1 else 0
theorem pcN_succ (k x : Nat) : pcN (k + 1) x = pcN k x + if x.testBit k then 1 else 0 := by
  rw [pcN_add, pcN, pcN, Nat.testBit_eq_decide_div_mod_eq]
  have : x / 2 ^ k % 2 = 0 ∨ x / 2 ^ k % 2 = 1 := by omega
  rcases this with h | h <;> simp [h]
theorem cnt_word (l : List Nat) (i : Nat) : ∀ k, k ≤ 64 → cnt l (64 * i + k) = cnt l (64 * i) + pcN k (l.getD i 0)
  | 0, _ => rfl
  | k + 1, h => by
    have ih := cnt_word l i k (by omega)
    show cnt l (64 * i + k + 1) = _
    rw [cnt, ih, pcN_succ, hasN, show (64 * i + k) / 64 = i from by omega, show (64 * i + k) % 64 = k from by omega]
    omega
theorem cnt_all (l : List Nat) : cnt l 256 = pcN 64 (l.getD 0 0) + pcN 64 (l.getD 1 0) + pcN 64 (l.getD 2 0) + pcN 64 (l.getD 3 0) := by
  have h0 := cnt_word l 0 64 (by omega)
  have h1 := cnt_word l 1 64 (by omega)
  have h2 := cnt_word l 2 64 (by omega)
  have h3 := cnt_word l 3 64 (by omega)
  simp only [Nat.reduceMul, Nat.reduceAdd, Nat.mul_zero, Nat.zero_add] at h0 h1 h2 h3
  rw [h3, h2, h1, h0]
  simp [cnt]
theorem cnt_le (l : List Nat) : ∀ f, cnt l f ≤ f
  | 0 => Nat.le_refl _
  | f + 1 => by
    have := cnt_le l f
    rw [cnt]
    split <;> omega
theorem cnt_gap (l : List Nat) (f : Nat) : ∀ k, (∀ j, f ≤ j → j < f + k → hasN l j = false) → cnt l (f + k) = cnt l f
  | 0, _ => rfl
  | k + 1, h => by
    show cnt l (f + k + 1) = _
    rw [cnt, h (f + k) (by omega) (by omega), cnt_gap l f k (fun j h1 h2 => h j h1 (by omega))]
    simp

/-- the first byte of a set from f on, or -1 -/
def FirstIs (l : List Nat) (f : Nat) (r : Int) : Prop :=
  (∃ b : Nat, r = b ∧ f ≤ b ∧ b < 256 ∧ hasN l b = true ∧ ∀ j, f ≤ j → j < b → hasN l j = false) ∨ (r = -1 ∧ ∀ j, f ≤ j → j < 256 → hasN l j = false)
theorem FirstIs.cnt {l : List Nat} {f b : Nat} (h : FirstIs l f (b : Int)) : f ≤ b ∧ b < 256 ∧ hasN l b = true ∧ Go.Proofs.YtndhbdbfjkmloaaDoor.cnt l (b + 1) = Go.Proofs.YtndhbdbfjkmloaaDoor.cnt l f + 1 := by
  rcases h with ⟨b', e, h1, h2, h3, h4⟩ | ⟨e, _⟩
  · obtain rfl : b = b' := by omega
    refine ⟨h1, h2, h3, ?_⟩
    have := cnt_gap l f (b - f) (fun j h5 h6 => h4 j h5 (by omega))
    rw [show f + (b - f) = b from by omega] at this
    rw [Go.Proofs.YtndhbdbfjkmloaaDoor.cnt, h3, this]
    simp
  · omega
theorem FirstIs.none {l : List Nat} {f : Nat} {r : Int} (h : FirstIs l f r) (hr : r < 0) (hf : f ≤ 256) : Go.Proofs.YtndhbdbfjkmloaaDoor.cnt l f = Go.Proofs.YtndhbdbfjkmloaaDoor.cnt l 256 := by
  rcases h with ⟨b', e, h1, h2, h3, h4⟩ | ⟨_, h⟩
  · omega
  · have := cnt_gap l f (256 - f) (fun j h5 h6 => h j h5 (by omega))
    rw [show f + (256 - f) = 256 from by omega] at this
    exact this.symm

/-- a word without its lowest k bits -/
theorem cut_bit (w k j : Nat) : (w / 2 ^ k * 2 ^ k).testBit j = (decide (k ≤ j) && w.testBit j) := by
  rw [← Nat.shiftRight_eq_div_pow, ← Nat.shiftLeft_eq, Nat.testBit_shiftLeft, Nat.testBit_shiftRight]
  by_cases h : k ≤ j
  · simp [h]
  · simp [h]
theorem ctz_is (x : Nat) (h0 : x ≠ 0) (hx : x < 18446744073709551616) : x.testBit (Lib.ctz 64 x) = true ∧ Lib.ctz 64 x < 64 ∧ ∀ j, j < Lib.ctz 64 x → x.testBit j = false := by
  obtain ⟨m, hm, hk⟩ := Lib.ctzFrom_spec 64 x (by omega) hx
  have e : Lib.ctz 64 x = Lib.ctzFrom 64 x := by simp [Lib.ctz, h0]
  rw [e]
  generalize Lib.ctzFrom 64 x = c at hm hk
  have hb : ∀ j, x.testBit j = (decide (c ≤ j) && (2 * m + 1).testBit (j - c)) := fun j => by
    rw [hm, Nat.mul_comm, ← Nat.shiftLeft_eq, Nat.testBit_shiftLeft]
  refine ⟨?_, hk, fun j hj => ?_⟩
  · rw [hb, Nat.sub_self]
    simp [Nat.testBit_zero]
  · rw [hb]
    have : ¬ c ≤ j := by omega
    simp [this]
/-- a word that is not empty from bit k on gives the first -/
theorem first_word {l : List Nat} {f i w : Nat} (hi : i < 4) (hw : l.getD i 0 = w) (hlt : w < 18446744073709551616) (k : Nat) (hk : k < 64) (hf : f ≤ 64 * i + k) (hgap : ∀ j, f ≤ j → j < 64 * i + k → hasN l j = false)
    (h0 : w / 2 ^ k * 2 ^ k ≠ 0) : FirstIs l f ((64 * i + Lib.ctz 64 (w / 2 ^ k * 2 ^ k) : Nat) : Int) := by
  have hle : w / 2 ^ k * 2 ^ k ≤ w := Nat.div_mul_le_self _ _
  obtain ⟨h1, h2, h3⟩ := ctz_is _ h0 (by omega)
  generalize Lib.ctz 64 (w / 2 ^ k * 2 ^ k) = c at h1 h2 h3 ⊢
  rw [cut_bit] at h1
  simp at h1
  refine .inl ⟨64 * i + c, rfl, by omega, by omega, ?_, fun j hj hj2 => ?_⟩
  · rw [hasN, show (64 * i + c) / 64 = i from by omega, show (64 * i + c) % 64 = c from by omega, hw]
    exact h1.2
  · by_cases hj3 : j < 64 * i + k
    · exact hgap j hj hj3
    · have := h3 (j - 64 * i) (by omega)
      rw [cut_bit] at this
      have hkj : k ≤ j - 64 * i := by omega
      simp [hkj] at this
      rw [hasN, show j / 64 = i from by omega, show j % 64 = j - 64 * i from by omega, hw]
      exact this
theorem gap_word {l : List Nat} {f i w : Nat} (hw : l.getD i 0 = w) (k : Nat) (hgap : ∀ j, f ≤ j → j < 64 * i + k → hasN l j = false)
    (h0 : w / 2 ^ k * 2 ^ k = 0) : ∀ j, f ≤ j → j < 64 * (i + 1) → hasN l j = false := by
  intro j hj hj2
  by_cases hj3 : j < 64 * i + k
  · exact hgap j hj hj3
  · have h := cut_bit w k (j - 64 * i)
    rw [h0] at h
    have hkj : k ≤ j - 64 * i := by omega
    simp [hkj] at h
    rw [hasN, show j / 64 = i from by omega, show j % 64 = j - 64 * i from by omega, hw]
    exact h
end Go.Proofs.YtndhbdbfjkmloaaDoor
