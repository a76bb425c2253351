/- chaffref.digit and chaffref.Dec: a number in decimal signs. -/
import Derived.Test.YtphfckihdhmhpaaGA
import Derived.Test.YtphfckihdhmhpaaProg
namespace Go.Proofs.Ytphfckihdhmhpaa
open Go.RowKit

/-- the sign of a digit (of sixteen) -/
def hexD (d : Nat) : UInt8 := UInt8.ofNat (if d < 10 then 48 + d else 87 + d)
set_option maxRecDepth 100000 in
theorem digit_any (d : Nat) (h : d < 16) (w : World) : Calls Try.prog 93 #[.int .i64 (d : Int)] w fun e w' => e = .returned (.string ⟨#[hexD d]⟩) ∧ w = w' := by
  rcases (by omega : d = 0 ∨ d = 1 ∨ d = 2 ∨ d = 3 ∨ d = 4 ∨ d = 5 ∨ d = 6 ∨ d = 7 ∨ d = 8 ∨ d = 9 ∨ d = 10 ∨ d = 11 ∨ d = 12 ∨ d = 13 ∨ d = 14 ∨ d = 15) with rfl | rfl | rfl | rfl | rfl | rfl | rfl | rfl | rfl | rfl | rfl | rfl | rfl | rfl | rfl | rfl
  all_goals
    go_enter Try.func93, Try.ntmps93
    go_wp2
    go_ret
    exact ⟨rfl, rfl⟩

/-- the decimal signs of m, ahead of out -/
def decD (m : Nat) (out : List UInt8) : List UInt8 := if m = 0 then out else decD (m / 10) (hexD (m % 10) :: out)
termination_by m
decreasing_by omega
/-- what Dec answers -/
def decT (n : Int) : List UInt8 := if n = 0 then [48] else if n < 0 then 45 :: decD n.natAbs [] else decD n.natAbs []
theorem str_app (a b : List UInt8) : (⟨a.toArray⟩ : ByteArray) ++ ⟨b.toArray⟩ = ⟨(a ++ b).toArray⟩ := by
  apply ByteArray.ext
  simp

set_option maxHeartbeats 4000000 in
set_option maxRecDepth 100000 in
theorem dec_any (n : Int) (hn : I64 n) (w : World) : Calls Try.prog 70 #[.int .i64 n] w fun e w' => e = .returned (.string ⟨(decT n).toArray⟩) ∧ w = w' := by
  unfold I64 at hn
  obtain ⟨R, hR⟩ : ∃ R, R = decT n := ⟨_, rfl⟩
  rw [← hR]
  unfold decT at hR
  by_cases h0 : n = 0
  · subst h0
    rw [if_pos rfl] at hR
    have HR := Lib.hid hR
    clear hR
    go_enter Try.func70, Try.ntmps70
    go_wp2
    go_ret
    exact ⟨by rw [HR.out]; rfl, rfl⟩
  · rw [if_neg h0] at hR
    have HR := Lib.hid hR
    have hz : (n == 0) = false := by rw [beq_eq_false_iff_ne]; exact h0
    obtain ⟨lo, hlo⟩ : ∃ lo, decide (n < 0) = lo := ⟨_, rfl⟩
    have HLO := Lib.hid hlo
    clear hR
    go_enter Try.func70, Try.ntmps70
    go_wp2
    go_loopw [0, 3] (fun i o wr => ∃ (k : Int) (l : List UInt8), i = .int .i64 k ∧ o = .string ⟨l.toArray⟩ ∧ -9223372036854775808 ≤ k ∧ k ≤ 9223372036854775807 ∧ l.length ≤ 64 ∧ Hid (k.natAbs < 2 ^ (64 - l.length)) ∧ Hid (decD n.natAbs [] = decD k.natAbs l) ∧ wr = w) (fun i _ _ => (intOf i).natAbs)
    case atStart => exact ⟨n, [], rfl, rfl, hn.1, hn.2, by simp, (by show n.natAbs < 2 ^ 64; omega), rfl, rfl⟩
    case round =>
      obtain ⟨k, l, rfl, rfl, hk1, hk2, hl64, HP, HD, hw⟩ := hrel
      have hll : ¬ 9223372036854775807 < 1 + l.length := by omega
      by_cases hk : k = 0
      · subst hk
        have HE : Hid (decD n.natAbs [] = l) := by
          show _ = _
          rw [HD.out]
          unfold decD
          rw [if_pos (by decide)]
        cases lo with
        | true =>
          have HR2 : Hid (R = 45 :: l) := by show _ = _; rw [HR.out, if_pos (of_decide_eq_true HLO.out), HE.out]
          clear HE HD HR HLO
          go_wp2
          go_ret
          exact ⟨by rw [HR2.out]; first | rfl | (rw [show (45 :: l) = [45] ++ l from rfl, ← str_app]; rfl), by first | rfl | exact hw.symm⟩
        | false =>
          have HR2 : Hid (R = l) := by show _ = _; rw [HR.out, if_neg (of_decide_eq_false HLO.out), HE.out]
          clear HE HD HR HLO
          go_wp2
          go_ret
          exact ⟨by rw [HR2.out]; rfl, by first | rfl | exact hw.symm⟩
      · have hkz : (k == 0) = false := by rw [beq_eq_false_iff_ne]; exact hk
        obtain ⟨d, hd⟩ : ∃ d : Nat, d = k.natAbs % 10 := ⟨_, rfl⟩
        have hd10 : d < 10 := by omega
        have HS : Hid (decD n.natAbs [] = decD (k.natAbs / 10) ([hexD d] ++ l)) := by
          show _ = _
          rw [HD.out, hd]
          conv => lhs; unfold decD
          rw [if_neg (by omega)]
          rfl
        have hq : (k.tdiv 10).natAbs = k.natAbs / 10 := by rw [Int.natAbs_tdiv]; rfl
        rw [← hq] at HS
        have HDG := Lib.hid (fun W => digit_any d (by omega) W)
        have hwq : IntKind.i64.wrap (k.tdiv 10) = k.tdiv 10 := by unfold IntKind.wrap IntKind.signed IntKind.bits; simp; omega
        have hm : k.tmod 10 = (d : Int) ∨ (k.tmod 10 = -(d : Int) ∧ 0 < d) := by
          by_cases hneg : k < 0
          · obtain ⟨m, rfl⟩ : ∃ m : Nat, k = -(m : Int) := ⟨k.natAbs, by omega⟩
            have : (-(m : Int)).tmod 10 = -(d : Int) := by
              rw [Int.neg_tmod, Int.tmod_eq_emod_of_nonneg (by omega)]
              omega
            by_cases hd0 : d = 0
            · exact .inl (by omega)
            · exact .inr ⟨this, by omega⟩
          · exact .inl (by rw [Int.tmod_eq_emod_of_nonneg (by omega)]; omega)
        have hmeas : (k.tdiv 10).natAbs < k.natAbs := by omega
        have hb1 : -9223372036854775808 ≤ k.tdiv 10 := by omega
        have hb2 : k.tdiv 10 ≤ 9223372036854775807 := by omega
        have hl63 : l.length ≤ 63 := by
          by_cases h : l.length = 64
          · have := HP.out
            rw [h] at this
            simp at this
            exact absurd this hk
          · omega
        have HP2 : Hid ((k.tdiv 10).natAbs < 2 ^ (64 - ([hexD d] ++ l).length)) := by
          show _ < _
          have := HP.out
          rw [show 64 - l.length = (63 - l.length) + 1 from by omega, Nat.pow_succ] at this
          rw [show 64 - ([hexD d] ++ l).length = 63 - l.length from by simp only [List.length_append, List.length_cons, List.length_nil]; omega]
          omega
        have hl2 : ([hexD d] ++ l).length ≤ 64 := by simp; omega
        have hk10 : ¬ ((10 : Int) = 0) := by omega
        clear hd hq HD HP
        rcases hm with hm | ⟨hm, hd0⟩
        · have hdn : ¬ (d : Int) < 0 := by omega
          go_wp2_with fail
          refine (HDG.out _).mono ?_
          rintro e w' ⟨rfl, hw'⟩
          subst hw'
          go_wp2
          go_roundw
          case rel => exact ⟨k.tdiv 10, [hexD d] ++ l, rfl, by first | rfl | (rw [← str_app]; rfl), hb1, hb2, hl2, HP2, HS, by first | trivial | exact hw⟩
          case measure => exact hmeas
        · have hdn : -(d : Int) < 0 := by omega
          go_wp2_with fail
          refine (HDG.out _).mono ?_
          rintro e w' ⟨rfl, hw'⟩
          subst hw'
          go_wp2
          go_roundw
          case rel => exact ⟨k.tdiv 10, [hexD d] ++ l, rfl, by first | rfl | (rw [← str_app]; rfl), hb1, hb2, hl2, HP2, HS, by first | trivial | exact hw⟩
          case measure => exact hmeas
end Go.Proofs.Ytphfckihdhmhpaa
