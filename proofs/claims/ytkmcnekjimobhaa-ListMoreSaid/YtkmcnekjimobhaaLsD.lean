/- chaffkeep's Within, small and whole. -/
import Derived.Test.YtkmcnekjimobhaaPkV
namespace Go.Proofs.Ytkmcnekjimobhaa
open Go.RowKit

/-- what Within answers -/
def wiN (k : Int) (n : Nat) : Nat := ((k % 18446744073709551616) % n).toNat
theorem wiN_lt (k : Int) {n : Nat} (h : 0 < n) : wiN k n < n := by
  unfold wiN
  have := Int.emod_lt_of_pos (k % 18446744073709551616) (show (0 : Int) < n by omega)
  omega
set_option maxRecDepth 100000 in
theorem within_any (k : Int) (n : Nat) (h1 : 0 < n) (h2 : n < 9223372036854775807) (w : World) : Calls Try.prog 31 #[.int .i64 k, .int .i64 n] w fun e w' => e = .returned (.int .i64 (wiN k n)) ∧ Below w.heap.size w w' := by
  have hlt := wiN_lt k h1
  have hw1 : IntKind.u64.wrap k = k % 18446744073709551616 := by rw [IntKind.wrap_u64]
  have hw2 : IntKind.u64.wrap (n : Int) = (n : Int) := by rw [IntKind.wrap_u64]; omega
  have hk0 : 0 ≤ k % 18446744073709551616 := Int.emod_nonneg _ (by omega)
  have hr : (k % 18446744073709551616).tmod (n : Int) = (wiN k n : Int) := by
    rw [Int.tmod_eq_emod_of_nonneg hk0]
    unfold wiN
    have := Int.emod_nonneg (k % 18446744073709551616) (show (n : Int) ≠ 0 by omega)
    omega
  generalize wiN k n = j at hlt hr ⊢
  generalize k % 18446744073709551616 = y at hw1 hk0 hr
  have hn0 : ((n : Int) == 0) = false := by rw [beq_eq_false_iff_ne]; omega
  have hn1 : ¬ ((n : Int) = 0) := by omega
  have hw3 : IntKind.i64.wrap (j : Int) = (j : Int) := wrap_i64 _ (by omega) (by omega)
  have hw4 : IntKind.u64.wrap (j : Int) = (j : Int) := by rw [IntKind.wrap_u64]; omega
  go_enter Try.func31, Try.ntmps31
  go_wp2
  go_ret
  exact ⟨by simp_all, (by repeat (first | exact Below.refl _ _ | assumption | refine Below.drew ?_ | refine below_drewN ?_ _ | refine Below.alloc ?_ (by first | omega | (simp; omega) | simp) _ | refine Below.setCell ?_ (by first | omega | (simp; omega) | simp) _))⟩
theorem slice_to (s : ByteArray) (k : IntKind) (r : Nat) (j : Int) (hj : j = r) (h2 : r ≤ s.size) (w : World) :
    (Instr.slice 9 (.string s) none (some (.int k j)) none).run Try.prog w = .ok (.string (s.extract 0 r)) w := by
  subst hj
  have hu := Try.underlying9
  simp [Instr.slice, run_underlying hu, Instr.sliceBounds, go_sem, h2]
/-- at most three bytes of an alphabet -/
def smA (a : ByteArray) : ByteArray := a.extract 0 (min a.size 3)
theorem smA_size (a : ByteArray) : (smA a).size ≤ 3 := by simp [smA]; omega
set_option maxRecDepth 100000 in
theorem small_any (a : ByteArray) (n : Int) (w : World) : Calls Try.prog 35 #[.string a, .int .i64 n] w fun e w' => e = .returned (.tuple #[.string (smA a), .int .i64 (wiN n 5)]) ∧ Below w.heap.size w w' := by
  have hwi := fun W => within_any n 5 (by decide) (by decide) W
  have HW := Lib.hid hwi
  clear hwi
  generalize wiN n 5 = y at HW ⊢
  rcases Nat.lt_or_ge 3 a.size with h3 | h3
  case' inl =>
    have hx : (3 : Int) < (a.size : Int) := by omega
    have hs := fun W => slice_to a .i64 3 3 rfl (by omega) W
    rw [show smA a = a.extract 0 3 by unfold smA; rw [Nat.min_eq_right (by omega)]]
  case' inr =>
    have hx : ((3 : Int) < (a.size : Int)) = False := by simp; omega
    have hs := fun W => slice_to a .i64 a.size a.size rfl (by omega) W
    rw [show smA a = a by unfold smA; rw [Nat.min_eq_left (by omega)]; simp]
  all_goals
    go_enter Try.func35, Try.ntmps35
    go_wp2_with fail
    refine wp_region_q (fun W => Below w.heap.size w W) (by kernel_rfl) (by kernel_rfl) (Below.refl _ _).drew ?_
    repeat
      (first | ((with_reducible apply QW.free rfl); · (intro W hW; go_simp; first | rfl | (go_at_call 31; refine (HW.out W).mono ?_; exact fun e w' h => ⟨h.1, hW.trans (h.2.mono hW.size)⟩))) | ((with_reducible apply QW.skip rfl); · (first | exact ⟨_, _, rfl, rfl, .inl rfl⟩ | exact ⟨_, _, rfl, rfl, .inr rfl⟩)) | ((with_reducible apply QW.take rfl); (· exact ⟨_, rfl, rfl⟩); (· (intro W hW; go_simp; first | rfl | (go_at_call 31; refine (HW.out W).mono ?_; exact fun e w' h => ⟨h.1, hW.trans (h.2.mono hW.size)⟩))))); (try simp only [Act.put, List.setIfInBounds_toArray, List.set_cons_zero, List.set_cons_succ])
    refine QW.nil ?_
    intro w1 h1
    go_wp2
    go_ret2
    exact ⟨rfl, h1⟩
end Go.Proofs.Ytkmcnekjimobhaa
