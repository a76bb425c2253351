/- What cover.Check, slices.Equal, slices.Index and slices.Contains of ints answer. -/
import Derived.Test.YtphfckihdhmhpaaGA
import Derived.Test.YtphfckihdhmhpaaProg
import Derived.BigQuiet
import Derived.Deep.QuietTactic
namespace Go.Proofs.Ytphfckihdhmhpaa
open Go.RowKit

def checkL (zs : List Int) : Int := if 120 < zs.length then 2 else if zs.all (fun m => decide (0 ≤ m) && decide (m ≤ 3)) then 0 else 3

theorem check_any (A : Option Addr) (n c : Nat) (zs : List Int) (B : Nat) (w : World) (hr : Reads w B 1 A n (ints zs)) :
    Calls Try.prog 68 #[.slice A n c] w fun e w' => e = .returned (.int .i64 (checkL zs)) ∧ w = w' := by
  have hl := hr.ints_len
  have HL := Lib.hid hl
  clear hl
  by_cases h120 : 120 < n
  · go_enter Try.func68, Try.ntmps68
    go_wp2
    go_ret
    exact ⟨ret_int (if_pos (by rw [HL.out]; exact h120)).symm, rfl⟩
  go_enter Try.func68, Try.ntmps68
  go_wp2
  go_loop [4, 10] (fun _ i => ∃ k : Nat, k ≤ n ∧ i = .int .i64 k ∧ (zs.take k).all (fun m => decide (0 ≤ m) && decide (m ≤ 3)) = true) (fun _ i => n - (intOf i).toNat)
  case atStart => exact ⟨0, by omega, rfl, rfl⟩
  case round =>
    obtain ⟨k, hk, rfl, hall⟩ := hrel
    have Hall := Lib.hid hall
    clear hall
    by_cases hkn : k < n
    · obtain ⟨ad, z, rfl, hb, hz, hc⟩ := hr.int_at hkn
      have HZ := Lib.hid hz
      clear hz
      by_cases hg0 : 0 ≤ z
      · by_cases hg3 : z ≤ 3
        · go_wp2
          go_round
          case rel => exact ⟨k + 1, by omega, by go_num, by rw [take_succ_of HZ.out, List.all_append, Hall.out]; simp [hg0, hg3]⟩
          case measure => simp [intOf]; omega
        · go_wp2
          go_ret
          refine ⟨ret_int ?_, rfl⟩
          unfold checkL; rw [if_neg (by rw [HL.out]; omega), if_neg]
          intro h; have := List.all_eq_true.1 h z (List.mem_of_getElem? HZ.out); simp at this; omega
      · go_wp2
        go_ret
        refine ⟨ret_int ?_, rfl⟩
        unfold checkL; rw [if_neg (by rw [HL.out]; omega), if_neg]
        intro h; have := List.all_eq_true.1 h z (List.mem_of_getElem? HZ.out); simp at this; omega
    · go_wp2
      go_ret
      have hkk : k = n := by omega
      subst hkk
      have h2 := Hall.out
      rw [List.take_of_length_le (by rw [HL.out]; omega)] at h2
      refine ⟨ret_int ?_, rfl⟩
      unfold checkL; rw [if_neg (by rw [HL.out]; omega), if_pos h2]
theorem equal_any (A A' : Option Addr) (n c n' c' : Nat) (zs ys : List Int) (B B' : Nat) (w : World) (hr : Reads w B 1 A n (ints zs)) (hr' : Reads w B' 1 A' n' (ints ys)) (hn : Small n) :
    Calls Try.prog 32 #[.slice A n c, .slice A' n' c'] w fun e w' => e = .returned (.bool (decide (zs = ys))) ∧ ∃ d, w' = w.drewN d := by
  have HL := Lib.hid hr.ints_len
  have HL' := Lib.hid hr'.ints_len
  unfold Small at hn
  by_cases hnn : n = n'
  · obtain rfl := hnn
    go_enter Try.func32, Try.ntmps32
    go_wp2
    go_loopw [5, 13] (fun _ i wr => ∃ k d : Nat, k ≤ n ∧ i = .int .i64 k ∧ zs.take k = ys.take k ∧ wr = w.drewN d) (fun _ i _ => n - (intOf i).toNat)
    case atStart => exact ⟨0, 0, by omega, rfl, rfl, rfl⟩
    case round =>
      obtain ⟨k, d, hk, rfl, ht, rfl⟩ := hrel
      have HT := Lib.hid ht
      clear ht
      by_cases hkn : k < n
      · obtain ⟨ad, z, rfl, hb, hz, hc⟩ := hr.int_at hkn
        obtain ⟨ad', y, rfl, hb', hy, hc'⟩ := hr'.int_at hkn
        have HZ := Lib.hid hz
        have HY := Lib.hid hy
        clear hz hy
        have hk0 : (0 : Int) ≤ (k : Int) := by omega
        have hk1 : (k : Int) < (n : Int) := by omega
        by_cases hzy : z = y
        · obtain rfl := hzy
          go_wp2
          go_quiet (fail)
          go_wp2
          go_roundw
          case rel => exact ⟨k + 1, _, by omega, by go_num, by rw [take_succ_of HZ.out, take_succ_of HY.out, HT.out], rfl⟩
          case measure => simp [intOf]; omega
        · have hne : (z != y) = true := by simpa using hzy
          go_wp2
          go_quiet (fail)
          go_wp2
          go_ret
          refine ⟨ret_bool ?_, _, World.drewN_drewN _ _ _⟩
          rw [eq_comm, decide_eq_false_iff_not]
          intro h
          have h1 := HZ.out
          rw [h, HY.out] at h1
          exact hzy (by simpa using h1.symm)
      · go_wp2
        go_ret
        refine ⟨ret_bool ?_, _, rfl⟩
        rw [eq_comm, decide_eq_true_iff]
        have h2 := HT.out
        rwa [List.take_of_length_le (by rw [HL.out]; omega), List.take_of_length_le (by rw [HL'.out]; omega)] at h2
  · have hne : ((n : Int) != (n' : Int)) = true := by simp; omega
    go_enter Try.func32, Try.ntmps32
    go_wp2
    go_ret
    refine ⟨ret_bool ?_, 0, rfl⟩
    rw [eq_comm, decide_eq_false_iff_not]
    rintro rfl
    have h1 := HL.out
    have h2 := HL'.out
    omega
end Go.Proofs.Ytphfckihdhmhpaa
