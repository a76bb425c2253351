/- The contract of strings.Count, laid by the kit's shelf at this seat (wip/shelf.py writes this text anew for another seat). -/
import Derived.Shelf.Strings.Count
import Derived.Test.YtmikpogmklindaaProg
namespace Go.Proofs.Ytmikpogmklindaa
open Go.Shelf
def sh_lays138_ren : Go.Shelf.Ren := ⟨fun | 138 => 9 | 195 => 11 | 218 => 12 | 143 => 13 | 219 => 14 | 217 => 15 | 225 => 16 | 224 => 17 | 267 => 18 | 266 => 19 | 314 => 20 | n => n, fun | 9 => 9 | 3 => 3 | 4 => 4 | 5 => 5 | 0 => 0 | 46 => 36 | 146 => 38 | 51 => 37 | n => n, fun | 1 => 0 | n => n⟩
theorem sh_lays138 : Go.Proofs.Lays.n138 Try.prog sh_lays138_ren := {
  mixed := by kernel_rfl
  f138 := Try.func9.trans (congrArg some (by kernel_rfl))
  f143 := Try.func13.trans (congrArg some (by kernel_rfl))
  f195 := Try.func11.trans (congrArg some (by kernel_rfl))
  f217 := Try.func15.trans (congrArg some (by kernel_rfl))
  f218 := Try.func12.trans (congrArg some (by kernel_rfl))
  f219 := Try.func14.trans (congrArg some (by kernel_rfl))
  f224 := Try.func17.trans (congrArg some (by kernel_rfl))
  f225 := Try.func16.trans (congrArg some (by kernel_rfl))
  f266 := Try.func19.trans (congrArg some (by kernel_rfl))
  f267 := Try.func18.trans (congrArg some (by kernel_rfl))
  f314 := Try.func20.trans (congrArg some (by kernel_rfl))
  t0 := Try.underlying0
  a0 := Try.isAgg0
  z0 := Try.sizeOf0
  v0 := Try.zeroValue0
  t3 := Try.underlying3
  a3 := Try.isAgg3
  z3 := Try.sizeOf3
  v3 := Try.zeroValue3
  t4 := Try.underlying4
  a4 := Try.isAgg4
  z4 := Try.sizeOf4
  v4 := Try.zeroValue4
  t5 := Try.underlying5
  a5 := Try.isAgg5
  z5 := Try.sizeOf5
  v5 := Try.zeroValue5
  t9 := Try.underlying9
  a9 := Try.isAgg9
  z9 := Try.sizeOf9
  v9 := Try.zeroValue9
  t46 := Try.underlying36
  a46 := Try.isAgg36
  z46 := Try.sizeOf36
  v46 := Try.zeroValue36
  t51 := Try.underlying37
  a51 := Try.isAgg37
  z51 := Try.sizeOf37
  v51 := Try.zeroValue37
  t146 := Try.underlying38
  a146 := Try.isAgg38
  z146 := Try.sizeOf38
  v146 := Try.zeroValue38
  g1 := by kernel_rfl }
open Go.RowKit Go.Lib in
theorem sh_strings_Count_one (s : ByteArray) (c : UInt8) (w : World) :
    Calls Try.prog 9 #[.string s, .string ⟨#[c]⟩] w fun e w' => e = .returned (.int .i64 (Lib.countByte s.data.toList c)) ∧ w' = w := Any.strings_Count_one sh_lays138 s c w
end Go.Proofs.Ytmikpogmklindaa
