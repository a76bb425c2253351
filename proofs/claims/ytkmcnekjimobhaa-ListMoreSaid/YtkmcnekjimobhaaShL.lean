/- The contract of math/bits.Len, laid by the kit's shelf at this seat (wip/shelf.py writes this text anew for another seat). -/
import Derived.Shelf.Small.Bits
import Derived.Test.YtkmcnekjimobhaaProg
namespace Go.Proofs.Ytkmcnekjimobhaa
open Go.Shelf
def sh_lays125_ren : Go.Shelf.Ren := ⟨fun | 125 => 130 | 128 => 146 | 129 => 147 | n => n, fun | 46 => 118 | 3 => 3 | 51 => 214 | 53 => 32 | 4 => 4 | 5 => 5 | 9 => 9 | n => n, fun | n => n⟩
theorem sh_lays125 : Go.Proofs.Lays.n125 Try.prog sh_lays125_ren := {
  mixed := by kernel_rfl
  f125 := Try.func130.trans (congrArg some (by kernel_rfl))
  f128 := Try.func146.trans (congrArg some (by kernel_rfl))
  f129 := Try.func147.trans (congrArg some (by kernel_rfl))
  t3 := Try.underlying3
  a3 := Try.isAgg3
  z3 := Try.sizeOf3
  v3 := Try.zeroValue3
  t4 := Try.underlying4
  a4 := Try.isAgg4
  z4 := Try.sizeOf4
  v4 := Try.zeroValue4
  t5 := Try.underlying5
  a5 := Try.isAgg5
  z5 := Try.sizeOf5
  v5 := Try.zeroValue5
  t9 := Try.underlying9
  a9 := Try.isAgg9
  z9 := Try.sizeOf9
  v9 := Try.zeroValue9
  t46 := Try.underlying118
  a46 := Try.isAgg118
  z46 := Try.sizeOf118
  v46 := Try.zeroValue118
  t51 := Try.underlying214
  a51 := Try.isAgg214
  z51 := Try.sizeOf214
  v51 := Try.zeroValue214
  t53 := Try.underlying32
  a53 := Try.isAgg32
  z53 := Try.sizeOf32
  v53 := Try.zeroValue32 }
theorem sh_bits_Len (x : Int) (w : World) (h0 : 0 ≤ x) (h1 : x ≤ 18446744073709551615) :
    Calls Try.prog 130 #[.int .u64 x] w fun e w' => e = .returned (.int .i64 (Lib.bitLen x.toNat)) ∧ w' = w := Any.bits_Len sh_lays125 x w h0 h1
end Go.Proofs.Ytkmcnekjimobhaa
