/- What set.Count answers. -/
import Derived.Test.YtkoenjnjkapfmaaDoorSetG
namespace Go.Proofs.YtkoenjnjkapfmaaDoor
open Go.RowKit

/-- four words -/
def vals (l : List Nat) : Value := .agg #[.int .u64 (l.getD 0 0 : Nat), .int .u64 (l.getD 1 0 : Nat), .int .u64 (l.getD 2 0 : Nat), .int .u64 (l.getD 3 0 : Nat)]
def Words (l : List Nat) : Prop := ∀ i, l.getD i 0 < 18446744073709551616
def psum (l : List Nat) : Nat → Nat
  | 0 => 0
  | k + 1 => psum l k + pcN 64 (l.getD k 0)
theorem psum_four (l : List Nat) : psum l 4 = cnt l 256 := by rw [cnt_all]; simp [psum]
theorem psum_le (l : List Nat) : ∀ k, psum l k ≤ 64 * k
  | 0 => Nat.le_refl _
  | k + 1 => by
    have := psum_le l k
    have := pcN_le 64 (l.getD k 0)
    rw [psum]
    omega
theorem vals_get (l : List Nat) (k : Nat) (hk : k < 4) (w : World) : (Instr.index 24 (vals l) (.int .i64 (k : Int))).run Tryd.prog w = .ok (.int .u64 (l.getD k 0 : Nat)) w := by
  rcases (by omega : k = 0 ∨ k = 1 ∨ k = 2 ∨ k = 3) with rfl | rfl | rfl | rfl <;> kernel_rfl

set_option maxRecDepth 100000 in
theorem count_any (l : List Nat) (hl : Words l) (w : World) : Calls Tryd.prog 4 #[vals l] w fun e w' => e = .returned (.int .i64 (cnt l 256)) ∧ Below w.heap.size w w' := by
  have HL := Lib.hid hl
  have HV := Lib.hid (vals_get l)
  clear hl
  rw [← psum_four]
  unfold vals at HV ⊢
  generalize he0 : l.getD 0 0 = e0 at HV ⊢
  generalize he1 : l.getD 1 0 = e1 at HV ⊢
  generalize he2 : l.getD 2 0 = e2 at HV ⊢
  generalize he3 : l.getD 3 0 = e3 at HV ⊢
  clear he0 he1 he2 he3
  go_enter Tryd.func4, Tryd.ntmps4
  go_wp2
  go_loopw [3, 7] (fun n i wr => ∃ k : Nat, k ≤ 4 ∧ i = .int .i64 k ∧ n = .int .i64 (psum l k : Nat) ∧ Below w.heap.size w wr) (fun _ i _ => 4 - (intOf i).toNat)
  case atStart => exact ⟨0, by omega, rfl, rfl, (by repeat (first | exact Below.refl _ _ | assumption | refine Below.drew ?_ | refine below_drewN ?_ _ | refine Below.alloc ?_ (by first | omega | (simp; omega) | simp) _ | refine Below.setCell ?_ (by first | omega | (simp; omega) | simp) _))⟩
  case round =>
    obtain ⟨k, hk, rfl, rfl, hbw⟩ := hrel
    have hle := psum_le l k
    by_cases hk4 : k < 4
    · have hv := HV.out k hk4
      have hs : psum l (k + 1) = psum l k + pcN 64 (l.getD k 0) := rfl
      have hx := HL.out k
      have hp := pcN_le 64 (l.getD k 0)
      generalize l.getD k 0 = x at hv hs hx hp
      generalize hq : pcN 64 x = q at hs hp
      generalize psum l k = p at hs hle ⊢
      have HS := Lib.hid hs
      have HQ := Lib.hid hq
      clear hs hq
      have hk0 : (0 : Int) ≤ (k : Int) := by omega
      have hk1 : (k : Int) < 4 := by omega
      go_wp2_with fail
      refine (ones_any x hx _).mono ?_
      rintro e w' ⟨rfl, rfl⟩
      rw [HQ.out]
      go_wp2
      go_roundw
      case rel => exact ⟨k + 1, by omega, by go_num, by rw [HS.out]; go_num, hbw⟩
      case measure => simp [intOf]; omega
    · obtain rfl : k = 4 := by omega
      go_wp2
      go_ret
      exact ⟨rfl, hbw⟩
end Go.Proofs.YtkoenjnjkapfmaaDoor
