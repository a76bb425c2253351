/- What walk.shorter and walk.Over answer. -/
import Derived.Test.YtkoenjnjkapfmaaStr1
namespace Go.Proofs.Ytkoenjnjkapfmaa
open Go.RowKit

/-- how many texts of m signs are shorter than n -/
def shN (m : Nat) : Nat → Nat
  | 0 => 0
  | n + 1 => shN m n + m ^ n
theorem pow_le_8 {m n : Nat} (hm : m ≤ 8) (hn : n ≤ 7) : m ^ n ≤ 2097152 := by
  have h1 : m ^ n ≤ 8 ^ n := Nat.pow_le_pow_left hm n
  have h2 : (8 : Nat) ^ n ≤ 8 ^ 7 := Nat.pow_le_pow_right (by omega) hn
  have h3 : (8 : Nat) ^ 7 = 2097152 := by decide
  omega
theorem shN_le {m : Nat} (hm : m ≤ 8) : ∀ n, n ≤ 7 → shN m n ≤ n * 2097152
  | 0, _ => by simp [shN]
  | n + 1, h => by
    have h1 := shN_le hm n (by omega)
    have h2 := pow_le_8 hm (show n ≤ 7 by omega)
    rw [shN]; omega

theorem shorter_any (a : ByteArray) (n : Nat) (hn : n ≤ 7) (ha : a.size ≤ 8) (w : World) :
    Calls Try.prog 46 #[.string a, .int .i64 n] w fun e w' => e = .returned (.int .i64 (shN a.size n)) ∧ w = w' := by
  go_enter Try.func46, Try.ntmps46
  go_wp2
  go_loop [5, 6, 8] (fun o m i => ∃ k O M : Nat, k ≤ n ∧ i = .int .i64 k ∧ o = .int .i64 O ∧ m = .int .i64 M ∧ O = shN a.size k ∧ M = a.size ^ k) (fun _ _ i => n - (intOf i).toNat)
  case atStart => exact ⟨0, 0, 1, by omega, rfl, rfl, rfl, rfl, rfl⟩
  case round =>
    obtain ⟨k, O, M, hk, rfl, rfl, rfl, hO, hM⟩ := hrel
    have hOb : O ≤ 20000000 := by have := shN_le ha k (by omega); omega
    have hMb : M ≤ 2097152 := by have := pow_le_8 ha (show k ≤ 7 by omega); omega
    have hp : M * a.size ≤ 2097152 * 8 := Nat.mul_le_mul hMb ha
    have hp1 : (0 : Int) ≤ (M : Int) * (a.size : Int) := by rw [← Int.natCast_mul]; omega
    have hp2 : (M : Int) * (a.size : Int) ≤ 16777216 := by rw [← Int.natCast_mul]; omega
    have HO := Lib.hid hO
    have HM := Lib.hid hM
    clear hO hM hp
    by_cases hkn : k < n
    · go_wp2
      go_round
      case rel => exact ⟨k + 1, O + M, M * a.size, by omega, by go_num, by go_num, by go_num, by rw [HO.out, HM.out]; rfl, by rw [HM.out]; rfl⟩
      case measure => simp [intOf]; omega
    · obtain rfl : k = n := by omega
      go_wp2
      go_ret
      exact ⟨ret_int (by rw [HO.out]), rfl⟩

def OverOk (a s : List UInt8) : Prop := AlphaOk a ∧ s.length ≤ 6 ∧ ∀ c ∈ s, c ∈ a
theorem index_mem {l : List UInt8} {c : UInt8} : 0 ≤ Lib.indexByte l c ↔ c ∈ l := by
  induction l with
  | nil => simp [Lib.indexByte]
  | cons b l ih =>
    unfold Lib.indexByte
    have hg := Lib.indexByte_ge l c
    by_cases hbc : b = c
    · subst hbc; simp
    · have hbc' : (b == c) = false := by simpa using hbc
      rw [hbc', if_neg (by decide)]
      split
      · rename_i h1
        have h1' : Lib.indexByte l c = -1 := by simpa using h1
        have h2 : ¬ c ∈ l := fun h => by have := ih.2 h; omega
        simp [h2, Ne.symm hbc]
      · rename_i h1
        have h1' : ¬ Lib.indexByte l c = -1 := by simpa using h1
        have h2 : c ∈ l := ih.1 (by omega)
        simp [h2]; omega
theorem over_any (a s : ByteArray) (w : World) (ha : a.size ≤ 140737488351232) (hs : s.size ≤ 140737488351232) :
    Calls Try.prog 47 #[.string a, .string s] w fun e w' => (∃ n, e = .returned (.int .i64 n) ∧ (n = 0 ↔ OverOk a.data.toList s.data.toList)) ∧ ∃ d, w' = w.drewN d := by
  have HA := Lib.hid (size_list a)
  have HS := Lib.hid (size_list s)
  go_enter Try.func47, Try.ntmps47
  go_wp2_with fail
  refine (alpha_any a _ ha).mono ?_
  rintro e w' ⟨⟨n, rfl, hn⟩, d, rfl⟩
  have HN := Lib.hid hn
  clear hn
  by_cases hn0 : n = 0
  · obtain rfl := hn0
    by_cases h6 : 6 < s.size
    · go_wp2
      go_ret
      exact ⟨⟨2, rfl, by simp; exact fun h => by have := h.2.1; rw [HS.out] at this; omega⟩, d, rfl⟩
    · go_wp2_with fail
      go_loop [6, 17] (fun _ i => ∃ k : Nat, k ≤ s.size ∧ i = .int .i64 k ∧ ∀ c ∈ s.data.toList.take k, c ∈ a.data.toList) (fun _ i => s.size - (intOf i).toNat)
      case atStart => exact ⟨0, by omega, rfl, by simp⟩
      case round =>
        obtain ⟨k, hk, rfl, hr⟩ := hrel
        have HR := Lib.hid hr
        clear hr
        by_cases hkn : k < s.size
        · have hg : s.data.toList[k]? = some s[k] := by rw [List.getElem?_eq_getElem (by rw [size_list]; exact hkn)]; rfl
          have HG := Lib.hid hg
          clear hg
          go_wp2_with fail
          refine (indexByte_any _ _ _).mono ?_
          rintro e w' ⟨rfl, rfl⟩
          have hx : ((s[k].toNat : Nat) : Int).toNat.toUInt8 = s[k] := by simp
          rw [hx]
          clear hx
          by_cases hin : s[k] ∈ a.data.toList
          · have hi : 0 ≤ Lib.indexByte a.data.toList s[k] := index_mem.2 hin
            have HI := Lib.hid hin
            clear hin
            go_wp2_with fail
            go_round
            case rel => exact ⟨k + 1, by omega, by go_num, fun c hc => by
              rw [take_succ_of HG.out] at hc
              rcases List.mem_append.1 hc with hc | hc
              · exact HR.out c hc
              · rw [List.mem_singleton.1 hc]; exact HI.out⟩
            case measure => simp [intOf]; omega
          · have hi : Lib.indexByte a.data.toList s[k] < 0 := by
              rcases Int.lt_or_le (Lib.indexByte a.data.toList s[k]) 0 with h | h
              · exact h
              · exact absurd (index_mem.1 h) hin
            have HI := Lib.hid hin
            clear hin
            go_wp2_with fail
            go_ret
            exact ⟨⟨12, rfl, by simp; exact fun h => absurd (h.2.2 _ (List.mem_of_getElem? HG.out)) HI.out⟩, d, rfl⟩
        · obtain rfl : k = s.size := by omega
          go_wp2
          go_ret
          have h2 := HR.out
          rw [List.take_of_length_le (by rw [HS.out]; omega)] at h2
          exact ⟨⟨0, rfl, by simp; exact ⟨by have := HN.out; simpa using this, by rw [HS.out]; omega, h2⟩⟩, d, rfl⟩
  · have hne : (n != 0) = true := by simpa using hn0
    have H0 := Lib.hid hn0
    clear hn0
    go_wp2
    go_ret
    exact ⟨⟨n, rfl, ⟨fun h => absurd h H0.out, fun h => absurd (HN.out.2 h.1) H0.out⟩⟩, d, rfl⟩
end Go.Proofs.Ytkoenjnjkapfmaa
