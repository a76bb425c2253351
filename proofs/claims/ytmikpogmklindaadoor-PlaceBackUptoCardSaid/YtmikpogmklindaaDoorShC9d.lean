/- The contract of strings.Count, laid by the kit's shelf at this seat (wip/shelf.py writes this text anew for another seat). -/
import Derived.Shelf.Strings.Count
import Derived.Test.YtmikpogmklindaaDoorProg
namespace Go.Proofs.YtmikpogmklindaaDoor
open Go.Shelf
def sh_lays138_ren : Go.Shelf.Ren := ⟨fun | 138 => 9 | 195 => 14 | 218 => 15 | 143 => 16 | 219 => 19 | 217 => 17 | 225 => 21 | 224 => 22 | 267 => 23 | 266 => 20 | 314 => 24 | n => n, fun | 9 => 9 | 3 => 3 | 4 => 4 | 5 => 5 | 0 => 0 | 46 => 40 | 146 => 46 | 51 => 45 | n => n, fun | 1 => 0 | n => n⟩
theorem sh_lays138 : Go.Proofs.Lays.n138 Tryd.prog sh_lays138_ren := {
  mixed := by kernel_rfl
  f138 := Tryd.func9.trans (congrArg some (by kernel_rfl))
  f143 := Tryd.func16.trans (congrArg some (by kernel_rfl))
  f195 := Tryd.func14.trans (congrArg some (by kernel_rfl))
  f217 := Tryd.func17.trans (congrArg some (by kernel_rfl))
  f218 := Tryd.func15.trans (congrArg some (by kernel_rfl))
  f219 := Tryd.func19.trans (congrArg some (by kernel_rfl))
  f224 := Tryd.func22.trans (congrArg some (by kernel_rfl))
  f225 := Tryd.func21.trans (congrArg some (by kernel_rfl))
  f266 := Tryd.func20.trans (congrArg some (by kernel_rfl))
  f267 := Tryd.func23.trans (congrArg some (by kernel_rfl))
  f314 := Tryd.func24.trans (congrArg some (by kernel_rfl))
  t0 := Tryd.underlying0
  a0 := Tryd.isAgg0
  z0 := Tryd.sizeOf0
  v0 := Tryd.zeroValue0
  t3 := Tryd.underlying3
  a3 := Tryd.isAgg3
  z3 := Tryd.sizeOf3
  v3 := Tryd.zeroValue3
  t4 := Tryd.underlying4
  a4 := Tryd.isAgg4
  z4 := Tryd.sizeOf4
  v4 := Tryd.zeroValue4
  t5 := Tryd.underlying5
  a5 := Tryd.isAgg5
  z5 := Tryd.sizeOf5
  v5 := Tryd.zeroValue5
  t9 := Tryd.underlying9
  a9 := Tryd.isAgg9
  z9 := Tryd.sizeOf9
  v9 := Tryd.zeroValue9
  t46 := Tryd.underlying40
  a46 := Tryd.isAgg40
  z46 := Tryd.sizeOf40
  v46 := Tryd.zeroValue40
  t51 := Tryd.underlying45
  a51 := Tryd.isAgg45
  z51 := Tryd.sizeOf45
  v51 := Tryd.zeroValue45
  t146 := Tryd.underlying46
  a146 := Tryd.isAgg46
  z146 := Tryd.sizeOf46
  v146 := Tryd.zeroValue46
  g1 := by kernel_rfl }
open Go.RowKit Go.Lib in
theorem sh_strings_Count_one (s : ByteArray) (c : UInt8) (w : World) :
    Calls Tryd.prog 9 #[.string s, .string ⟨#[c]⟩] w fun e w' => e = .returned (.int .i64 (Lib.countByte s.data.toList c)) ∧ w' = w := Any.strings_Count_one sh_lays138 s c w
end Go.Proofs.YtmikpogmklindaaDoor
