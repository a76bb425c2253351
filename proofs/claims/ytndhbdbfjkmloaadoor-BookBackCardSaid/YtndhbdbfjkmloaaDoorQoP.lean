/- QuoteOrder, plain: decimal numerals and their lengths; a numeral is read as it was. -/
import Derived.Lib.AtoiAllCases
import Derived.Lib.ItoaNum
import Derived.Lib.ItoaLen
namespace Go.Proofs.YtndhbdbfjkmloaaDoor

theorem dd_small {u : Nat} (h : u < 10) : Lib.decDigits u = [UInt8.ofNat (48 + u)] := by rw [Lib.decDigits, dif_pos h]
theorem dd_big {u : Nat} (h : ¬ u < 10) : Lib.decDigits u = Lib.decDigits (u / 10) ++ [UInt8.ofNat (48 + u % 10)] := by rw [Lib.decDigits, dif_neg h]
theorem dd_len (u : Nat) : (Lib.decDigits u).length = Lib.nDigits u := by rw [Lib.decDigits_eq]; simp
theorem dig_nat {d : Nat} (h : d < 10) : (UInt8.ofNat (48 + d)).toNat = 48 + d := by
  rw [UInt8.toNat_ofNat']
  omega
theorem parse_app : ∀ (l r : List UInt8) (acc m : Nat), Lib.parseUint10 acc l = .ok m → Lib.parseUint10 acc (l ++ r) = Lib.parseUint10 m r
  | [], r, acc, m, h => by
    simp only [Lib.parseUint10] at h
    injection h with h
    rw [h]
    rfl
  | c :: l, r, acc, m, h => by
    rw [List.cons_append]
    simp only [Lib.parseUint10] at h ⊢
    split at h
    · rename_i hd
      rw [if_pos hd]
      split at h
      · cases h
      · rename_i h1
        rw [if_neg h1]
        split at h
        · cases h
        · rename_i h2
          rw [if_neg h2]
          exact parse_app l r _ m h
    · cases h
theorem parse_one {acc d : Nat} (hd : d < 10) (h : acc * 10 + d < 18446744073709551616) : Lib.parseUint10 acc [UInt8.ofNat (48 + d)] = .ok (acc * 10 + d) := by
  simp only [Lib.parseUint10]
  rw [dig_nat hd, if_pos (by omega), if_neg (by omega), if_neg (by omega)]
  congr 1
  omega
theorem parse_dd (u : Nat) : u < 18446744073709551616 → Lib.parseUint10 0 (Lib.decDigits u) = .ok u := by
  induction u using Nat.strongRecOn with
  | _ u ih =>
    intro hu
    by_cases h : u < 10
    · rw [dd_small h, parse_one h (by omega)]
      congr 1
      omega
    · rw [dd_big h, parse_app _ _ _ _ (ih (u / 10) (by omega) (by omega)), parse_one (by omega) (by omega)]
      congr 1
      omega
theorem dd_first (u : Nat) : ∃ c r, Lib.decDigits u = c :: r ∧ 48 ≤ c.toNat ∧ c.toNat ≤ 57 := by
  induction u using Nat.strongRecOn with
  | _ u ih =>
    by_cases h : u < 10
    · exact ⟨_, [], dd_small h, by rw [dig_nat h]; omega, by rw [dig_nat h]; omega⟩
    · obtain ⟨c, r, h1, h2, h3⟩ := ih (u / 10) (by omega)
      exact ⟨c, r ++ [UInt8.ofNat (48 + u % 10)], by rw [dd_big h, h1]; rfl, h2, h3⟩
theorem mag_dd {u : Nat} (hu : u < 18446744073709551616) : Lib.parseMag (Lib.decDigits u) = .ok u := by
  obtain ⟨c, r, h1, -⟩ := dd_first u
  unfold Lib.parseMag
  rw [if_neg (by rw [h1]; simp), parse_dd u hu]
/-- a numeral is read as it was -/
theorem atoi_itoa {n : Int} (h0 : -9223372036854775808 ≤ n) (h1 : n ≤ 9223372036854775807) : Lib.atoiAll (Lib.itoa n) = .ok n := by
  unfold Lib.itoa
  by_cases h : n < 0
  · rw [if_pos h, Lib.atoiAll_minus, mag_dd (by omega)]
    simp only [Lib.signed]
    rw [if_neg (by omega)]
    congr 1
    omega
  · obtain ⟨c, r, e1, e2, e3⟩ := dd_first n.toNat
    rw [if_neg h]
    rw [show Lib.atoiAll (Lib.decDigits n.toNat) = Lib.signless (Lib.parseMag (Lib.decDigits n.toNat)) by rw [e1]; exact Lib.atoiAll_plain c r (by omega) (by omega)]
    rw [mag_dd (by omega)]
    simp only [Lib.signless]
    rw [if_neg (by omega)]
    congr 1
    omega
theorem itoa_inj {a b : Int} (a0 : -9223372036854775808 ≤ a) (a1 : a ≤ 9223372036854775807) (b0 : -9223372036854775808 ≤ b) (b1 : b ≤ 9223372036854775807) (h : Lib.itoa a = Lib.itoa b) : a = b := by
  have h1 := atoi_itoa a0 a1
  rw [h, atoi_itoa b0 b1] at h1
  injection h1 with h1
  exact h1.symm
theorem nd_le : ∀ (k u : Nat), 1 ≤ k → u < 10 ^ k → Lib.nDigits u ≤ k
  | 0, _, h, _ => by omega
  | k + 1, u, _, h => by
    by_cases h10 : u < 10
    · rw [Lib.nDigits_small h10]; omega
    · rw [Lib.nDigits_big h10]
      rcases Nat.eq_zero_or_pos k with rfl | hk
      · simp at h; omega
      · have := nd_le k (u / 10) hk (by rw [Nat.pow_succ] at h; omega)
        omega
theorem itoa_len_pos {n : Int} (h : 0 ≤ n) : (Lib.itoa n).length = Lib.nDigits n.toNat := by
  unfold Lib.itoa
  rw [if_neg (by omega), dd_len]
theorem itoa_nine {n : Int} (h : 0 ≤ n) (h9 : n < 1000000000) : (Lib.itoa n).length ≤ 9 := by
  rw [itoa_len_pos h]
  exact nd_le 9 _ (by omega) (by show _ < 1000000000; omega)
theorem itoa_ten {n : Int} (h9 : 999999999 < n) : 9 < (Lib.itoa n).length := by
  rw [itoa_len_pos (by omega)]
  have h1 := Lib.lt_pow_nDigits n.toNat
  rcases Nat.lt_or_ge 9 (Lib.nDigits n.toNat) with h | h
  · exact h
  · have h2 : 10 ^ Lib.nDigits n.toNat ≤ 10 ^ 9 := Nat.pow_le_pow_right (by omega) h
    have h3 : (10 : Nat) ^ 9 = 1000000000 := rfl
    omega
theorem itoa_less {a b : Int} (ha : 0 ≤ a) (hb : 0 ≤ b) (h : (Lib.itoa a).length < (Lib.itoa b).length) : a < b := by
  rw [itoa_len_pos ha, itoa_len_pos hb] at h
  by_cases h1 : a < b
  · exact h1
  · have h2 := Lib.lt_pow_nDigits a.toNat
    have h3 := nd_le (Lib.nDigits a.toNat) b.toNat (Lib.nDigits_pos _) (by omega)
    omega
/-- what quote.Undec answers of a numeral -/
def undN (n : Int) : Int × Int := if 9 < (Lib.itoa n).length ∨ n < 0 then (0, 3) else (n, 0)
end Go.Proofs.YtndhbdbfjkmloaaDoor
