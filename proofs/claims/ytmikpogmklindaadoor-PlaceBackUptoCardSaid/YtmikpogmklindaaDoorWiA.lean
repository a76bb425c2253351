/- Within: a number made small. -/
import Derived.Test.YtmikpogmklindaaDoorBase
import Derived.Test.YtmikpogmklindaaDoorProg
namespace Go.Proofs.YtmikpogmklindaaDoor
open Go.RowKit

theorem wrap_i64w (n : Int) (h1 : -9223372036854775808 ≤ n) (h2 : n ≤ 9223372036854775807) : IntKind.i64.wrap n = n := by
  unfold IntKind.wrap IntKind.signed IntKind.bits
  simp
  omega
/-- what Within answers -/
def wiN (k : Int) (n : Nat) : Nat := ((k % 18446744073709551616) % n).toNat
theorem wiN_lt (k : Int) {n : Nat} (h : 0 < n) : wiN k n < n := by
  unfold wiN
  have := Int.emod_lt_of_pos (k % 18446744073709551616) (show (0 : Int) < n by omega)
  omega
set_option maxRecDepth 100000 in
theorem within_any (k : Int) (n : Nat) (h1 : 0 < n) (h2 : n < 9223372036854775807) (w : World) : Calls Tryd.prog 6 #[.int .i64 k, .int .i64 n] w fun e w' => e = .returned (.int .i64 (wiN k n)) ∧ Below w.heap.size w w' := by
  have hlt := wiN_lt k h1
  have hw1 : IntKind.u64.wrap k = k % 18446744073709551616 := by rw [IntKind.wrap_u64]
  have hw2 : IntKind.u64.wrap (n : Int) = (n : Int) := by rw [IntKind.wrap_u64]; omega
  have hk0 : 0 ≤ k % 18446744073709551616 := Int.emod_nonneg _ (by omega)
  have hr : (k % 18446744073709551616).tmod (n : Int) = (wiN k n : Int) := by
    rw [Int.tmod_eq_emod_of_nonneg hk0]
    unfold wiN
    have := Int.emod_nonneg (k % 18446744073709551616) (show (n : Int) ≠ 0 by omega)
    omega
  generalize wiN k n = j at hlt hr ⊢
  generalize k % 18446744073709551616 = y at hw1 hk0 hr
  have hn0 : ((n : Int) == 0) = false := by rw [beq_eq_false_iff_ne]; omega
  have hn1 : ¬ ((n : Int) = 0) := by omega
  have hw3 : IntKind.i64.wrap (j : Int) = (j : Int) := wrap_i64w _ (by omega) (by omega)
  have hw4 : IntKind.u64.wrap (j : Int) = (j : Int) := by rw [IntKind.wrap_u64]; omega
  go_enter Tryd.func6, Tryd.ntmps6
  go_wp2
  go_ret
  exact ⟨by simp_all, (by repeat (first | exact Below.refl _ _ | assumption | refine Below.drew ?_ | refine below_drewN ?_ _ | refine Below.alloc ?_ (by first | omega | (simp; omega) | simp) _ | refine Below.setCell ?_ (by first | omega | (simp; omega) | simp) _))⟩
end Go.Proofs.YtmikpogmklindaaDoor
