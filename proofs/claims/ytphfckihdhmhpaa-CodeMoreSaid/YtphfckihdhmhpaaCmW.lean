/- The walk of the law CodeMore. -/
import Derived.Test.YtphfckihdhmhpaaCmR
import Derived.Laws.StructEq
namespace Go.Proofs.Ytphfckihdhmhpaa
open Go.RowKit

theorem run_same_oc (w : World) (b b' : Bool) (n n' : Int) : (Op.equalIn 10000 49 (.agg #[.bool b, .int .i64 n]) (.agg #[.bool b', .int .i64 n'])).run Try.prog w = .ok (b == b' && n == n') w := by
  have u4 := Try.underlying4
  have a4 := Try.isAgg4
  have z4 := Try.sizeOf4
  have u3 := Try.underlying3
  have a3 := Try.isAgg3
  have z3 := Try.sizeOf3
  have hS : Try.prog.underlying 49 = some (.struct (Try.prog.fieldsOf 49)) := by kernel_rfl
  have hp : Try.prog.stoodInHeld 49 = false := by kernel_rfl
  rw [show (10000 : Nat) = 9999 + 1 from rfl, run_equalIn_agg w 9999 49 _ _ hS hp]
  simp only [Program.fieldsOf, Try.underlying49]
  go_simp
  cases b <;> cases b' <;> cases h : (n == n') <;> simp_all
theorem wrap_i64w (n : Int) (h1 : -9223372036854775808 ≤ n) (h2 : n ≤ 9223372036854775807) : IntKind.i64.wrap n = n := by
  unfold IntKind.wrap IntKind.signed IntKind.bits
  simp
  omega
/-- what Within answers -/
def wiN (k : Int) (n : Nat) : Nat := ((k % 18446744073709551616) % n).toNat
theorem wiN_lt (k : Int) {n : Nat} (h : 0 < n) : wiN k n < n := by
  unfold wiN
  have := Int.emod_lt_of_pos (k % 18446744073709551616) (show (0 : Int) < n by omega)
  omega
set_option maxRecDepth 100000 in
theorem within_any (k : Int) (n : Nat) (h1 : 0 < n) (h2 : n < 9223372036854775807) (w : World) : Calls Try.prog 44 #[.int .i64 k, .int .i64 n] w fun e w' => e = .returned (.int .i64 (wiN k n)) ∧ Below w.heap.size w w' := by
  have hlt := wiN_lt k h1
  have hw1 : IntKind.u64.wrap k = k % 18446744073709551616 := by rw [IntKind.wrap_u64]
  have hw2 : IntKind.u64.wrap (n : Int) = (n : Int) := by rw [IntKind.wrap_u64]; omega
  have hk0 : 0 ≤ k % 18446744073709551616 := Int.emod_nonneg _ (by omega)
  have hr : (k % 18446744073709551616).tmod (n : Int) = (wiN k n : Int) := by
    rw [Int.tmod_eq_emod_of_nonneg hk0]
    unfold wiN
    have := Int.emod_nonneg (k % 18446744073709551616) (show (n : Int) ≠ 0 by omega)
    omega
  generalize wiN k n = j at hlt hr ⊢
  generalize k % 18446744073709551616 = y at hw1 hk0 hr
  have hn0 : ((n : Int) == 0) = false := by rw [beq_eq_false_iff_ne]; omega
  have hn1 : ¬ ((n : Int) = 0) := by omega
  have hw3 : IntKind.i64.wrap (j : Int) = (j : Int) := wrap_i64w _ (by omega) (by omega)
  have hw4 : IntKind.u64.wrap (j : Int) = (j : Int) := by rw [IntKind.wrap_u64]; omega
  go_enter Try.func44, Try.ntmps44
  go_wp2
  go_ret
  exact ⟨by simp_all, (by repeat (first | exact Below.refl _ _ | assumption | refine Below.drew ?_ | refine below_drewN ?_ _ | refine Below.alloc ?_ (by first | omega | (simp; omega) | simp) _ | refine Below.setCell ?_ (by first | omega | (simp; omega) | simp) _))⟩

theorem jump_nine : codeM [⟨2, 0, 0, 0, 0, 0⟩] [] 9 = (false, 0, 10) := by decide

set_option maxHeartbeats 8000000 in
set_option maxRecDepth 100000 in
theorem walk_CodeMore (A : Option Addr) (n c : Nat) (l : List In) (s : ByteArray) (steps more : Int) (w : World) (hr : Reads w w.heap.size 6 A n (inCells l)) (hn : n ≤ maxLen) (hwd : ∀ x ∈ l, Words x.set) (hs : s.size ≤ 140737488351232) :
    Calls Try.prog 11 #[.slice A n c, .string s, .int .i64 steps, .int .i64 more] w fun e w' => e = .returned (.bool true) ∧ Below w.heap.size w w' := by
  have hwi := fun (z : Int) W => within_any z 5000 (by decide) (by decide) W
  have hi : wiN steps 5000 < 5000 := wiN_lt _ (by decide)
  have hj : wiN more 5000 < 5000 := wiN_lt _ (by decide)
  have hcm := codeM_more l s.data.toList (wiN steps 5000) (wiN more 5000) hi hj
  have HI1 := Lib.hid (hwi steps)
  have HI2 := Lib.hid (hwi more)
  generalize wiN steps 5000 = i at hi hcm HI1
  generalize wiN more 5000 = j at hj hcm HI2
  clear hwi
  have HR1 := Lib.hid (fun (W : World) (hW : Below w.heap.size w W) => crun_any A n c l w.heap.size W (hr.below hW) hW.size hn hwd s (i : Int) (by unfold I64; omega) (by unfold I64; omega))
  have HR2 := Lib.hid (fun (W : World) (hW : Below w.heap.size w W) => crun_any A n c l w.heap.size W (hr.below hW) hW.size hn hwd s ((i : Int) + (j : Int)) (by unfold I64; omega) (by unfold I64; omega))
  have hJ : Reads (w.alloc (.cells #[.int .i64 2, .int .i64 0, .int .u64 0, .int .u64 0, .int .u64 0, .int .u64 0] 89)) (w.heap.size + 1) 6 (some ⟨w.heap.size, 0, none⟩) 1 (inCells [⟨2, 0, 0, 0, 0, 0⟩]) :=
    ⟨rfl, fun _ => ⟨_, rfl, by simp, fun k u hu => new_row w 89 [.int .i64 2, .int .i64 0, .int .u64 0, .int .u64 0, .int .u64 0, .int .u64 0] k u hu⟩⟩
  have HJ := crun_any (some ⟨w.heap.size, 0, none⟩) 1 1 [⟨2, 0, 0, 0, 0, 0⟩] (w.heap.size + 1) _ hJ (by simp) (by unfold maxLen; omega) (fun x hx => by simp at hx; subst hx; intro k; match k with | 0 => decide | 1 => decide | 2 => decide | 3 => decide | k + 4 => simp [In.set]) ⟨#[]⟩ 9 (by unfold I64; decide) (by unfold I64; decide)
  have e9 : codeM [⟨2, 0, 0, 0, 0, 0⟩] (ByteArray.mk #[]).data.toList 9 = (false, 0, 10) := jump_nine
  rw [e9] at HJ
  unfold outR at HJ
  replace HJ := Lib.hid HJ
  clear e9 hJ hr hwd hn
  obtain ⟨R1, hR1⟩ : ∃ R, R = codeM l s.data.toList i := ⟨_, rfl⟩
  obtain ⟨R2, hR2⟩ : ∃ R, R = codeM l s.data.toList ((i : Int) + j) := ⟨_, rfl⟩
  rw [← hR1] at hcm HR1
  rw [← hR2] at hcm HR2
  clear hR1 hR2
  obtain ⟨b1, n1, e1⟩ := R1
  obtain ⟨b2, n2, e2⟩ := R2
  unfold outR at HR1 HR2
  dsimp only at HR1 HR2 hcm
  have hq := fun W => run_same_oc W b1 b1 (n1 : Int) (n1 : Int)
  have HCM := Lib.hid hcm
  clear hcm
  go_enter Try.func11, Try.ntmps11
  go_wp2_with fail
  refine (HJ.out).mono ?_
  rintro e w1 ⟨rfl, hb1⟩
  have hw1 : Below w.heap.size w w1 := ((Below.refl _ w).alloc (Nat.le_refl _) _).trans (hb1.mono (by simp))
  have hz1 := hw1.size
  clear hb1 HJ
  go_wp2_with fail
  refine (HI1.out _).mono ?_
  rintro e w2 ⟨rfl, hb2⟩
  have hw2 : Below w.heap.size w w2 := (hw1.alloc hz1 _).trans (hb2.mono (by simp; omega))
  clear hb2
  go_wp2_with fail
  refine (HR1.out _ hw2).mono ?_
  rintro e w3 ⟨rfl, hb3⟩
  have hw3 : Below w.heap.size w w3 := hw2.trans (hb3.mono hw2.size)
  have hz3 := hw3.size
  clear hb3
  have hB1 : Blk (w3.alloc (.cells #[.bool b1, .int .i64 (n1 : Int)] 49)) w3.heap.size 49 #[.bool b1, .int .i64 (n1 : Int)] := blk_at rfl
  have hw4 := hw3.alloc hz3 (.cells #[.bool b1, .int .i64 (n1 : Int)] 49)
  go_wp2_with fail
  generalize (w3.alloc (.cells #[.bool b1, .int .i64 (n1 : Int)] 49)) = w4 at hB1 hw4 ⊢
  generalize w3.heap.size = g1 at hB1 hz3 ⊢
  refine (HI2.out _).mono ?_
  rintro e w5 ⟨rfl, hb5⟩
  have hB5 := hB1.below hb5 hB1.lt
  have hw5 : Below w.heap.size w w5 := hw4.trans (hb5.mono hw4.size)
  clear hb5 hB1
  go_wp2_with fail
  refine (HR2.out _ hw5).mono ?_
  rintro e w6 ⟨rfl, hb6⟩
  have hB6 := hB5.below hb6 hB5.lt
  have hw6 : Below w.heap.size w w6 := hw5.trans (hb6.mono hw5.size)
  have hz6 := hw6.size
  have hl6 := hB6.lt
  have o0 : w6.cell? ⟨g1, 0, none⟩ = some (.bool b1) := hB6.cell 0
  have o1 : w6.cell? ⟨g1, 1, none⟩ = some (.int .i64 (n1 : Int)) := hB6.cell 1
  clear hb6 hB5
  by_cases h10 : e1 = 10
  · subst h10
    clear HCM
    go_wp2
    go_ret
    exact ⟨by simp, (by repeat (first | exact Below.refl _ _ | assumption | refine Below.drew ?_ | refine below_drewN ?_ _ | refine Below.alloc ?_ (by first | omega | (simp; omega) | simp) _ | refine Below.setCell ?_ (by first | omega | (simp; omega) | simp) _))⟩
  · have k10 : (e1 == 10) = false := by rw [beq_eq_false_iff_ne]; exact h10
    have heq := HCM.out h10
    injection heq with q1 q2
    injection q2 with q2 q3
    subst q1 q2 q3
    clear HCM h10
    go_wp2
    go_ret
    exact ⟨by simp, (by repeat (first | exact Below.refl _ _ | assumption | refine Below.drew ?_ | refine below_drewN ?_ _ | refine Below.alloc ?_ (by first | omega | (simp; omega) | simp) _ | refine Below.setCell ?_ (by first | omega | (simp; omega) | simp) _))⟩
end Go.Proofs.Ytphfckihdhmhpaa
