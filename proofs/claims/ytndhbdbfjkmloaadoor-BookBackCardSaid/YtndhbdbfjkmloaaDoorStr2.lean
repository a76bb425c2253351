/- What walk.shorter and walk.Over answer. -/
import Derived.Test.YtndhbdbfjkmloaaDoorStr1
namespace Go.Proofs.YtndhbdbfjkmloaaDoor
open Go.RowKit

/-- how many texts of m signs are shorter than n -/
def shN (m : Nat) : Nat → Nat
  | 0 => 0
  | n + 1 => shN m n + m ^ n
theorem pow_le_8 {m n : Nat} (hm : m ≤ 8) (hn : n ≤ 7) : m ^ n ≤ 2097152 := by
  have h1 : m ^ n ≤ 8 ^ n := Nat.pow_le_pow_left hm n
  have h2 : (8 : Nat) ^ n ≤ 8 ^ 7 := Nat.pow_le_pow_right (by omega) hn
  have h3 : (8 : Nat) ^ 7 = 2097152 := by decide
  omega
theorem shN_le {m : Nat} (hm : m ≤ 8) : ∀ n, n ≤ 7 → shN m n ≤ n * 2097152
  | 0, _ => by simp [shN]
  | n + 1, h => by
    have h1 := shN_le hm n (by omega)
    have h2 := pow_le_8 hm (show n ≤ 7 by omega)
    rw [shN]; omega

def OverOk (a s : List UInt8) : Prop := AlphaOk a ∧ s.length ≤ 6 ∧ ∀ c ∈ s, c ∈ a
theorem index_mem {l : List UInt8} {c : UInt8} : 0 ≤ Lib.indexByte l c ↔ c ∈ l := by
  induction l with
  | nil => simp [Lib.indexByte]
  | cons b l ih =>
    unfold Lib.indexByte
    have hg := Lib.indexByte_ge l c
    by_cases hbc : b = c
    · subst hbc; simp
    · have hbc' : (b == c) = false := by simpa using hbc
      rw [hbc', if_neg (by decide)]
      split
      · rename_i h1
        have h1' : Lib.indexByte l c = -1 := by simpa using h1
        have h2 : ¬ c ∈ l := fun h => by have := ih.2 h; omega
        simp [h2, Ne.symm hbc]
      · rename_i h1
        have h1' : ¬ Lib.indexByte l c = -1 := by simpa using h1
        have h2 : c ∈ l := ih.1 (by omega)
        simp [h2]; omega
end Go.Proofs.YtndhbdbfjkmloaaDoor
