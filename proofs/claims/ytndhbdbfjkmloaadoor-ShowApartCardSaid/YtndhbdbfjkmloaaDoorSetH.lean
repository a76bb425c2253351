/- What set.Count answers. -/
import Derived.Test.YtndhbdbfjkmloaaDoorSetG
namespace Go.Proofs.YtndhbdbfjkmloaaDoor
open Go.RowKit

/-- four words -/
def psum (l : List Nat) : Nat → Nat
  | 0 => 0
  | k + 1 => psum l k + pcN 64 (l.getD k 0)
theorem psum_four (l : List Nat) : psum l 4 = cnt l 256 := by rw [cnt_all]; simp [psum]
theorem psum_le (l : List Nat) : ∀ k, psum l k ≤ 64 * k
  | 0 => Nat.le_refl _
  | k + 1 => by
    have := psum_le l k
    have := pcN_le 64 (l.getD k 0)
    rw [psum]
    omega
theorem vals_get (l : List Nat) (k : Nat) (hk : k < 4) (w : World) : (Instr.index 24 (vals l) (.int .i64 (k : Int))).run Tryd.prog w = .ok (.int .u64 (l.getD k 0 : Nat)) w := by
  rcases (by omega : k = 0 ∨ k = 1 ∨ k = 2 ∨ k = 3) with rfl | rfl | rfl | rfl <;> kernel_rfl

end Go.Proofs.YtndhbdbfjkmloaaDoor
