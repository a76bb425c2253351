/- What math/bits answers: OnesCount64, TrailingZeros64. -/
import Derived.Test.YtphfckihdhmhpaaSetF
import Derived.Test.YtphfckihdhmhpaaGA
import Derived.Laws.Bits128
namespace Go.Proofs.Ytphfckihdhmhpaa
open Go.RowKit

theorem add_nat (a b : Nat) (h : a + b < 18446744073709551616) : IntKind.u64.wrap ((a : Int) + (b : Int)) = ((a + b : Nat) : Int) := by
  rw [IntKind.wrap_u64]
  omega
theorem tot_lt (x : Nat) : tot 8 x < 1157442765409226769 := by
  have h0 := pcN_le 8 x
  have h1 := pcN_le 8 (x / 256)
  have h2 := pcN_le 8 (x / 65536)
  have h3 := pcN_le 8 (x / 16777216)
  have h4 := pcN_le 8 (x / 4294967296)
  have h5 := pcN_le 8 (x / 1099511627776)
  have h6 := pcN_le 8 (x / 281474976710656)
  have h7 := pcN_le 8 (x / 72057594037927936)
  rw [tot_eight]
  omega
set_option maxRecDepth 100000 in
theorem ones_any (x : Nat) (hx : x < 18446744073709551616) (w : World) : Calls Try.prog 116 #[.int .u64 x] w fun e w' => e = .returned (.int .i64 (pcN 64 x)) ∧ w' = w := by
  have r5 : rep 8 85 = 6148914691236517205 := by decide
  have r3 : rep 8 51 = 3689348814741910323 := by decide
  have rf : rep 8 15 = 1085102592571150095 := by decide
  have l1 : x / 2 &&& rep 8 85 ≤ rep 8 85 := Nat.and_le_right
  have l2 : x &&& rep 8 85 ≤ rep 8 85 := Nat.and_le_right
  have l3 : stA 8 x / 4 &&& rep 8 51 ≤ rep 8 51 := Nat.and_le_right
  have l4 : stA 8 x &&& rep 8 51 ≤ rep 8 51 := Nat.and_le_right
  have hA : stA 8 x = (x / 2 &&& rep 8 85) + (x &&& rep 8 85) := rfl
  have hB : stB 8 (stA 8 x) = (stA 8 x / 4 &&& rep 8 51) + (stA 8 x &&& rep 8 51) := rfl
  have hC : tot 8 x = (stB 8 (stA 8 x) / 16 + stB 8 (stA 8 x)) &&& rep 8 15 := rfl
  rw [r5] at l1 l2 hA
  rw [r3] at l3 l4 hB
  rw [rf] at hC
  have hT := tot_lt x
  have HO := Lib.hid (ones_is x)
  have k1 : IntKind.u64.wrap (bits .and .u64 ((x : Int) / 2) 6148914691236517205 + bits .and .u64 (x : Int) 6148914691236517205) = ((stA 8 x : Nat) : Int) := by
    have e1 := u64_and_nat (x / 2) 6148914691236517205 (by omega) (by omega)
    have e2 := u64_and_nat x 6148914691236517205 hx (by omega)
    have e3 : ((x / 2 : Nat) : Int) = (x : Int) / 2 := by omega
    rw [e3] at e1
    rw [show ((6148914691236517205 : Nat) : Int) = 6148914691236517205 from rfl] at e1 e2
    rw [e1, e2, add_nat _ _ (by omega), hA]
  have k2 : IntKind.u64.wrap (bits .and .u64 ((stA 8 x : Nat) / 4 : Int) 3689348814741910323 + bits .and .u64 ((stA 8 x : Nat) : Int) 3689348814741910323) = ((stB 8 (stA 8 x) : Nat) : Int) := by
    have e1 := u64_and_nat (stA 8 x / 4) 3689348814741910323 (by omega) (by omega)
    have e2 := u64_and_nat (stA 8 x) 3689348814741910323 (by omega) (by omega)
    have e3 : ((stA 8 x / 4 : Nat) : Int) = ((stA 8 x : Nat) : Int) / 4 := by omega
    rw [e3] at e1
    rw [show ((3689348814741910323 : Nat) : Int) = 3689348814741910323 from rfl] at e1 e2
    rw [e1, e2, add_nat _ _ (by omega), hB]
  have k3 : bits .and .u64 (IntKind.u64.wrap (((stB 8 (stA 8 x) : Nat) : Int) / 16 + ((stB 8 (stA 8 x) : Nat) : Int))) 1085102592571150095 = ((tot 8 x : Nat) : Int) := by
    have e3 : ((stB 8 (stA 8 x) / 16 : Nat) : Int) = ((stB 8 (stA 8 x) : Nat) : Int) / 16 := by omega
    have e1 := u64_and_nat (stB 8 (stA 8 x) / 16 + stB 8 (stA 8 x)) 1085102592571150095 (by omega) (by omega)
    rw [show ((1085102592571150095 : Nat) : Int) = 1085102592571150095 from rfl] at e1
    rw [← e3, add_nat _ _ (by omega), e1, hC]
  generalize stB 8 (stA 8 x) = B at k2 k3
  generalize stA 8 x = A at k1 k2
  have hO : (tot 8 x + tot 8 x / 256 + (tot 8 x + tot 8 x / 256) / 65536 + (tot 8 x + tot 8 x / 256 + (tot 8 x + tot 8 x / 256) / 65536) / 4294967296) % 128 = pcN 64 x := HO.out
  have HP := Lib.hid hO
  clear l1 l2 l3 l4 hA hB hC r5 r3 rf HO hO
  generalize tot 8 x = T at *
  have k4 : IntKind.u64.wrap ((T : Int) + (T : Int) / 256) = ((T + T / 256 : Nat) : Int) := by rw [IntKind.wrap_u64]; omega
  obtain ⟨U, hU⟩ : ∃ U, U = T + T / 256 := ⟨_, rfl⟩
  rw [← hU] at k4
  have k5 : IntKind.u64.wrap ((U : Int) + (U : Int) / 65536) = ((U + U / 65536 : Nat) : Int) := by rw [IntKind.wrap_u64]; omega
  obtain ⟨V, hV⟩ : ∃ V, V = U + U / 65536 := ⟨_, rfl⟩
  rw [← hV] at k5
  have k6 : IntKind.u64.wrap ((V : Int) + (V : Int) / 4294967296) = ((V + V / 4294967296 : Nat) : Int) := by rw [IntKind.wrap_u64]; omega
  obtain ⟨Z, hZ⟩ : ∃ Z, Z = V + V / 4294967296 := ⟨_, rfl⟩
  rw [← hZ] at k6
  have k7 : bits .and .i64 (Z : Int) 127 = ((pcN 64 x : Nat) : Int) := by
    rw [i64_and127, ← HP.out, ← hU, ← hV, ← hZ]
    omega
  have k8 : IntKind.i64.wrap (Z : Int) = (Z : Int) := IntWalk.i64_in _ (by omega)
  clear hU hV hZ HP hT
  go_enter Try.func116, Try.ntmps116
  go_wp2
  go_ret
  exact ⟨rfl, rfl⟩

/-- the table of TrailingZeros64 in its variable -/
def TabAt (w : World) : Prop := ∀ j, j < Lib.deBruijn64tab.length → w.cell? ⟨0, j, none⟩ = some (.int .u8 (Lib.deBruijn64tab.getD j 0))
theorem TabAt.pos {w : World} (h : TabAt w) : 0 < w.heap.size := World.block_lt_of_cell? w _ (h 0 (by decide))
theorem TabAt.below {w w' : World} {B : Nat} (h : TabAt w) (hb : Below B w w') (hB : 0 < B) : TabAt w' := fun j hj => (hb.cell hB).trans (h j hj)
theorem tz_key (x a : Nat) (hx : x < 18446744073709551616) (hx0 : x ≠ 0) (hlow : x &&& (18446744073709551616 - x) = a) :
    IntKind.u64.wrap (bits BinOp.and IntKind.u64 (x : Int) (IntKind.u64.wrap (-(x : Int))) * 285870213051353865) / 288230376151711744 = ((a * 285870213051353865 % 18446744073709551616 / 288230376151711744 : Nat) : Int) := by
  have e1 : IntKind.u64.wrap (-(x : Int)) = ((18446744073709551616 - x : Nat) : Int) := by rw [IntKind.wrap_u64]; omega
  rw [e1, u64_and_nat x _ hx (by omega), hlow, IntKind.wrap_u64]
  omega
end Go.Proofs.Ytphfckihdhmhpaa
