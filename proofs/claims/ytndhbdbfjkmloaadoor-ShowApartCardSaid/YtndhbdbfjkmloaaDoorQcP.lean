/- Classes of bytes, written and read: plain. -/
import Derived.Test.YtndhbdbfjkmloaaDoorQuo2
import Derived.Test.YtndhbdbfjkmloaaDoorSetF
import Derived.Test.YtndhbdbfjkmloaaDoorSet3
import Derived.Test.YtndhbdbfjkmloaaDoorSetH
namespace Go.Proofs.YtndhbdbfjkmloaaDoor
open Go.RowKit

def firstI (l : List Nat) : Nat → Nat → Int
  | 0, _ => -1
  | k + 1, f => if hasN l f then f else firstI l k (f + 1)
/-- the first byte of a set from f on -/
def fstB (l : List Nat) (f : Nat) : Int := firstI l (256 - f) f
theorem firstI_is (l : List Nat) : ∀ k f, k + f = 256 → FirstIs l f (firstI l k f)
  | 0, f, h => .inr ⟨rfl, fun j h1 h2 => by omega⟩
  | k + 1, f, h => by
    have ih := firstI_is l k (f + 1) (by omega)
    rw [firstI]
    cases hb : hasN l f with
    | true => exact .inl ⟨f, by simp, Nat.le_refl _, by omega, hb, fun j h1 h2 => by omega⟩
    | false =>
      simp only [Bool.false_eq_true, if_false]
      rcases ih with ⟨b, h1, h2, h3, h4, h5⟩ | ⟨h1, h2⟩
      · exact .inl ⟨b, h1, by omega, h3, h4, fun j h6 h7 => by
          rcases Nat.eq_or_lt_of_le h6 with e | e
          · rw [← e]; exact hb
          · exact h5 j (by omega) h7⟩
      · exact .inr ⟨h1, fun j h6 h7 => by
          rcases Nat.eq_or_lt_of_le h6 with e | e
          · rw [← e]; exact hb
          · exact h2 j (by omega) h7⟩
theorem fstB_is (l : List Nat) (f : Nat) (hf : f ≤ 256) : FirstIs l f (fstB l f) := firstI_is l _ _ (by omega)
theorem FirstIs.uniq {l : List Nat} {f : Nat} {r r' : Int} (h : FirstIs l f r) (h' : FirstIs l f r') : r = r' := by
  rcases h with ⟨b, e, h1, h2, h3, h4⟩ | ⟨e, h1⟩ <;> rcases h' with ⟨b', e', h1', h2', h3', h4'⟩ | ⟨e', h1'⟩
  · rcases Nat.lt_trichotomy b b' with h | h | h
    · rw [h4' b h1 h] at h3; cases h3
    · omega
    · rw [h4 b' h1' h] at h3'; cases h3'
  · rw [h1' b h1 h2] at h3; cases h3
  · rw [h1 b' h1' h2'] at h3'; cases h3'
  · omega

def runE (l : List Nat) : Nat → Nat → Nat
  | 0, b => b
  | k + 1, b => if hasN l (b + 1) then runE l k (b + 1) else b
/-- the last byte that follows on b without a gap -/
def runB (l : List Nat) (b : Nat) : Nat := runE l (255 - b) b
theorem runB_step {l : List Nat} {b : Nat} (hb : b < 255) (h : hasN l (b + 1) = true) : runB l b = runB l (b + 1) := by
  unfold runB
  rw [show 255 - b = 255 - (b + 1) + 1 from by omega, runE, h]
  rfl
theorem runB_stop {l : List Nat} {b : Nat} (h : ¬ (b < 255 ∧ hasN l (b + 1) = true)) : runB l b = b := by
  unfold runB
  rcases Nat.eq_zero_or_pos (255 - b) with e | e
  · rw [e, runE]
  · have : ¬ hasN l (b + 1) = true := fun h' => h ⟨by omega, h'⟩
    rw [show 255 - b = 255 - b - 1 + 1 from by omega, runE, if_neg this]
theorem runE_is (l : List Nat) : ∀ k b, k + b = 255 → b ≤ runE l k b ∧ runE l k b ≤ 255 ∧ (∀ j, b < j → j ≤ runE l k b → hasN l j = true) ∧ (runE l k b < 255 → hasN l (runE l k b + 1) = false)
  | 0, b, h => ⟨Nat.le_refl _, by rw [runE]; omega, fun j h1 h2 => by rw [runE] at h2; omega, fun h1 => by rw [runE] at h1; omega⟩
  | k + 1, b, h => by
    have ih := runE_is l k (b + 1) (by omega)
    rw [runE]
    cases hb : hasN l (b + 1) with
    | true =>
      simp only [if_true]
      obtain ⟨h1, h2, h3, h4⟩ := ih
      refine ⟨by omega, h2, fun j h5 h6 => ?_, h4⟩
      rcases Nat.eq_or_lt_of_le (show b + 1 ≤ j by omega) with e | e
      · rw [← e]; exact hb
      · exact h3 j e h6
    | false =>
      simp only [Bool.false_eq_true, if_false]
      exact ⟨Nat.le_refl _, by omega, fun j h1 h2 => by omega, fun _ => hb⟩
theorem runB_is (l : List Nat) (b : Nat) (hb : b ≤ 255) : b ≤ runB l b ∧ runB l b ≤ 255 ∧ (∀ j, b < j → j ≤ runB l b → hasN l j = true) ∧ (runB l b < 255 → hasN l (runB l b + 1) = false) := runE_is l _ _ (by omega)

/-- what is written of the bytes b .. h -/
def piece (b h : Nat) : List UInt8 := enc true b ++ (if h = b + 1 then enc true h else if b < h then 45 :: enc true h else [])
/-- what is written of a set from its byte r on -/
def clsT (l : List Nat) : Nat → Int → List UInt8
  | 0, _ => []
  | k + 1, r => if r < 0 then [] else piece r.toNat (runB l r.toNat) ++ clsT l k (fstB l (runB l r.toNat + 1))
def clsAll (l : List Nat) : List UInt8 := 91 :: clsT l 257 (fstB l 0) ++ [93]

def orW (l l' : List Nat) : List Nat := [l.getD 0 0 ||| l'.getD 0 0, l.getD 1 0 ||| l'.getD 1 0, l.getD 2 0 ||| l'.getD 2 0, l.getD 3 0 ||| l'.getD 3 0]
/-- the signs that stand behind a stroke in a class -/
def sgC : List UInt8 := [91, 93, 45, 94, 92]
/-- a class read on: its set, and how many bytes it takes, the last one with it -/
def unc : Nat → List UInt8 → List Nat → Option (List Nat × Nat)
  | 0, _, _ => none
  | _ + 1, [], _ => none
  | f + 1, l, acc => if bt l 0 = 93 then some (acc, 1) else if (nextN sgC l).2 = 0 then none else
      if 1 < (l.drop (nextN sgC l).2).length ∧ bt (l.drop (nextN sgC l).2) 0 = 45 ∧ bt (l.drop (nextN sgC l).2) 1 ≠ 93 then
        if (nextN sgC (l.drop ((nextN sgC l).2 + 1))).2 = 0 ∨ (nextN sgC (l.drop ((nextN sgC l).2 + 1))).1 < (nextN sgC l).1 then none
        else (unc f (l.drop ((nextN sgC l).2 + 1 + (nextN sgC (l.drop ((nextN sgC l).2 + 1))).2)) (orW acc (rangeL (nextN sgC l).1 ((nextN sgC (l.drop ((nextN sgC l).2 + 1))).1 + 1 - (nextN sgC l).1)))).map fun x => (x.1, (nextN sgC l).2 + 1 + (nextN sgC (l.drop ((nextN sgC l).2 + 1))).2 + x.2)
      else (unc f (l.drop (nextN sgC l).2) (orW acc (rangeL (nextN sgC l).1 1))).map fun x => (x.1, (nextN sgC l).2 + x.2)

theorem orW_has (l l' : List Nat) {j : Nat} (hj : j < 256) : hasN (orW l l') j = (hasN l j || hasN l' j) := by
  unfold hasN orW
  rcases (by omega : j / 64 = 0 ∨ j / 64 = 1 ∨ j / 64 = 2 ∨ j / 64 = 3) with h | h | h | h <;> rw [h] <;> simp [Nat.testBit_or]
theorem rangeL_has (lo : Nat) : ∀ n, lo + n ≤ 256 → ∀ j, j < 256 → hasN (rangeL lo n) j = decide (lo ≤ j ∧ j < lo + n)
  | 0, _, j, _ => by
    have : ¬ (lo ≤ j ∧ j < lo + 0) := by omega
    rw [decide_eq_false this]
    unfold hasN rangeL
    rcases (by omega : j / 64 = 0 ∨ j / 64 = 1 ∨ j / 64 = 2 ∨ 3 ≤ j / 64) with h | h | h | h
    · rw [h]; simp
    · rw [h]; simp
    · rw [h]; simp
    · obtain ⟨m, hm⟩ : ∃ m, j / 64 = m + 3 := ⟨j / 64 - 3, by omega⟩
      rw [hm]
      cases m <;> simp
  | n + 1, h, j, hj => by
    have ih := rangeL_has lo n (by omega) j hj
    have hl := rangeL_len lo n
    unfold hasN at ih ⊢
    rw [rangeL, List.getD_eq_getElem?_getD, List.getElem?_set]
    split
    · rename_i he
      rw [if_pos (by omega)]
      simp only [Option.getD_some]
      rw [Nat.testBit_or, he, ih, Nat.testBit_two_pow]
      have e1 : ((lo + n) % 64 = j % 64) ↔ lo + n = j := by omega
      rw [Bool.eq_iff_iff]
      simp only [Bool.or_eq_true, decide_eq_true_iff, e1]
      omega
    · rename_i he
      rw [← List.getD_eq_getElem?_getD, ih, Bool.eq_iff_iff]
      simp only [decide_eq_true_iff]
      constructor
      · intro h1; omega
      · intro h1
        refine ⟨h1.1, ?_⟩
        rcases Nat.eq_or_lt_of_le (show j + 1 ≤ lo + (n + 1) from h1.2) with e | e
        · exfalso
          apply he
          rw [show lo + n = j from by omega]
        · omega
theorem words_eq {l o : List Nat} (hl : l.length = 4) (ho : o.length = 4) (h1 : Words l) (h2 : Words o) (h : ∀ j, j < 256 → hasN l j = hasN o j) : l = o := by
  have key : ∀ i, i < 4 → l.getD i 0 = o.getD i 0 := fun i hi => by
    apply Nat.eq_of_testBit_eq
    intro j
    by_cases hj : j < 64
    · have := h (64 * i + j) (by omega)
      unfold hasN at this
      rwa [show (64 * i + j) / 64 = i from by omega, show (64 * i + j) % 64 = j from by omega] at this
    · have e : ∀ x : Nat, x < 18446744073709551616 → x.testBit j = false := fun x hx => Nat.testBit_lt_two_pow (Nat.lt_of_lt_of_le hx (by
        have : (2 : Nat) ^ 64 ≤ 2 ^ j := Nat.pow_le_pow_right (by omega) (by omega)
        simpa using this))
      rw [e _ (h1 i), e _ (h2 i)]
  apply List.ext_getElem?
  intro i
  by_cases hi : i < 4
  · have := key i hi
    rw [List.getD_eq_getElem?_getD, List.getD_eq_getElem?_getD, List.getElem?_eq_getElem (by omega), List.getElem?_eq_getElem (by omega)] at this
    rw [List.getElem?_eq_getElem (by omega), List.getElem?_eq_getElem (by omega)]
    simpa using this
  · rw [List.getElem?_eq_none (by omega), List.getElem?_eq_none (by omega)]
end Go.Proofs.YtndhbdbfjkmloaaDoor
