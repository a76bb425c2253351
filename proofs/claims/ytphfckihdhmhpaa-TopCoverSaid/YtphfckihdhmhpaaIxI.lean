/- slices.Index and slices.Contains of ints. -/
import Derived.Test.YtphfckihdhmhpaaGA
namespace Go.Proofs.Ytphfckihdhmhpaa
open Go.RowKit

theorem indexZ_any (A : Option Addr) (n c : Nat) (zs : List Int) (x : Int) (B : Nat) (w : World) (hr : Reads w B 1 A n (ints zs)) (hn : Small n) :
    Calls Try.prog 92 #[.slice A n c, .int .i64 x] w fun e w' => (∃ i : Int, e = .returned (.int .i64 i) ∧ -1 ≤ i ∧ (0 ≤ i ↔ x ∈ zs)) ∧ w = w' := by
  have HL := Lib.hid hr.ints_len
  unfold Small at hn
  go_enter Try.func92, Try.ntmps92
  go_wp2
  go_loop [5, 8] (fun _ i => ∃ k : Nat, k ≤ n ∧ i = .int .i64 k ∧ x ∉ zs.take k) (fun _ i => n - (intOf i).toNat)
  case atStart => exact ⟨0, by omega, rfl, by simp⟩
  case round =>
    obtain ⟨k, hk, rfl, ht⟩ := hrel
    have HT := Lib.hid ht
    clear ht
    by_cases hkn : k < n
    · obtain ⟨ad, z, rfl, hb, hz, hc⟩ := hr.int_at hkn
      have HZ := Lib.hid hz
      clear hz
      by_cases hzx : x = z
      · obtain rfl := hzx
        go_wp2
        go_ret
        exact ⟨⟨k, rfl, by omega, by simp; exact List.mem_of_getElem? HZ.out⟩, rfl⟩
      · have hne : (x == z) = false := by simpa using hzx
        go_wp2
        go_round
        case rel => exact ⟨k + 1, by omega, by go_num, by rw [take_succ_of HZ.out, List.mem_append, not_or]; exact ⟨HT.out, by simpa using hzx⟩⟩
        case measure => simp [intOf]; omega
    · go_wp2
      go_ret
      refine ⟨⟨-1, rfl, by omega, ?_⟩, rfl⟩
      have h2 := HT.out
      rw [List.take_of_length_le (by rw [HL.out]; omega)] at h2
      simp [h2]

theorem containsZ_any (A : Option Addr) (n c : Nat) (zs : List Int) (x : Int) (B : Nat) (w : World) (hr : Reads w B 1 A n (ints zs)) (hn : Small n) :
    Calls Try.prog 69 #[.slice A n c, .int .i64 x] w fun e w' => e = .returned (.bool (decide (x ∈ zs))) ∧ w = w' := by
  go_enter Try.func69, Try.ntmps69
  go_wp2_with fail
  refine (indexZ_any A n c zs x B _ hr hn).mono ?_
  rintro e w' ⟨⟨i, rfl, hi, hm⟩, rfl⟩
  have HM := Lib.hid hm
  clear hm
  go_wp2
  go_ret
  exact ⟨ret_bool (decide_eq_decide.2 HM.out), rfl⟩
end Go.Proofs.Ytphfckihdhmhpaa
