/- The contract of strings.Repeat, laid by the kit's shelf at this seat (wip/shelf.py writes this text anew for another seat). -/
import Derived.Shelf.Strings.Repeat
import Derived.Test.YtkmcnekjimobhaaProg
namespace Go.Proofs.Ytkmcnekjimobhaa
open Go.Shelf
def sh_lays105_ren : Go.Shelf.Ren := ⟨fun | 105 => 72 | 212 => 102 | 99 => 89 | 165 => 103 | 166 => 104 | 170 => 105 | 169 => 106 | 263 => 125 | 264 => 126 | 206 => 114 | 240 => 127 | 241 => 128 | 276 => 135 | 277 => 136 | n => n, fun | 9 => 9 | 3 => 3 | 4 => 4 | 20 => 20 | 0 => 0 | 46 => 118 | 109 => 189 | 5 => 5 | 72 => 193 | 76 => 196 | 51 => 214 | 146 => 215 | 53 => 32 | 148 => 217 | 70 => 191 | 37 => 145 | 75 => 195 | 127 => 219 | 164 => 223 | 80 => 199 | n => n, fun | n => n⟩
theorem sh_lays105 : Go.Proofs.Lays.n105 Try.prog sh_lays105_ren := {
  mixed := by kernel_rfl
  f99 := Try.func89.trans (congrArg some (by kernel_rfl))
  f105 := Try.func72.trans (congrArg some (by kernel_rfl))
  f165 := Try.func103.trans (congrArg some (by kernel_rfl))
  f166 := Try.func104.trans (congrArg some (by kernel_rfl))
  f169 := Try.func106.trans (congrArg some (by kernel_rfl))
  f170 := Try.func105.trans (congrArg some (by kernel_rfl))
  f206 := Try.func114.trans (congrArg some (by kernel_rfl))
  f212 := Try.func102.trans (congrArg some (by kernel_rfl))
  f240 := Try.func127.trans (congrArg some (by kernel_rfl))
  f241 := Try.func128.trans (congrArg some (by kernel_rfl))
  f263 := Try.func125.trans (congrArg some (by kernel_rfl))
  f264 := Try.func126.trans (congrArg some (by kernel_rfl))
  f276 := Try.func135.trans (congrArg some (by kernel_rfl))
  f277 := Try.func136.trans (congrArg some (by kernel_rfl))
  t0 := Try.underlying0
  a0 := Try.isAgg0
  z0 := Try.sizeOf0
  v0 := Try.zeroValue0
  t3 := Try.underlying3
  a3 := Try.isAgg3
  z3 := Try.sizeOf3
  v3 := Try.zeroValue3
  t4 := Try.underlying4
  a4 := Try.isAgg4
  z4 := Try.sizeOf4
  v4 := Try.zeroValue4
  t5 := Try.underlying5
  a5 := Try.isAgg5
  z5 := Try.sizeOf5
  v5 := Try.zeroValue5
  t9 := Try.underlying9
  a9 := Try.isAgg9
  z9 := Try.sizeOf9
  v9 := Try.zeroValue9
  t20 := Try.underlying20
  a20 := Try.isAgg20
  z20 := Try.sizeOf20
  v20 := Try.zeroValue20
  t37 := Try.underlying145
  a37 := Try.isAgg145
  z37 := Try.sizeOf145
  v37 := Try.zeroValue145
  t46 := Try.underlying118
  a46 := Try.isAgg118
  z46 := Try.sizeOf118
  v46 := Try.zeroValue118
  t51 := Try.underlying214
  a51 := Try.isAgg214
  z51 := Try.sizeOf214
  v51 := Try.zeroValue214
  t53 := Try.underlying32
  a53 := Try.isAgg32
  z53 := Try.sizeOf32
  v53 := Try.zeroValue32
  t70 := Try.underlying191
  a70 := Try.isAgg191
  z70 := Try.sizeOf191
  v70 := Try.zeroValue191
  t72 := Try.underlying193
  a72 := Try.isAgg193
  z72 := Try.sizeOf193
  v72 := Try.zeroValue193
  t75 := Try.underlying195
  a75 := Try.isAgg195
  z75 := Try.sizeOf195
  v75 := Try.zeroValue195
  t76 := Try.underlying196
  a76 := Try.isAgg196
  z76 := Try.sizeOf196
  v76 := Try.zeroValue196
  t109 := Try.underlying189
  a109 := Try.isAgg189
  z109 := Try.sizeOf189
  v109 := Try.zeroValue189
  t127 := Try.underlying219
  a127 := Try.isAgg219
  z127 := Try.sizeOf219
  v127 := Try.zeroValue219
  t146 := Try.underlying215
  a146 := Try.isAgg215
  z146 := Try.sizeOf215
  v146 := Try.zeroValue215
  t148 := Try.underlying217
  a148 := Try.isAgg217
  z148 := Try.sizeOf217
  v148 := Try.zeroValue217
  t164 := Try.underlying223
  a164 := Try.isAgg223
  z164 := Try.sizeOf223
  v164 := Try.zeroValue223 }
theorem sh_Builder_Extra_105 : Builder.Extra Try.prog sh_lays105_ren := {
  sizeBuilder := by kernel_rfl
  liesBuilder := by kernel_rfl
  t5 := Try.underlying5
  a5 := Try.isAgg5
  z5 := Try.sizeOf5
  v5 := Try.zeroValue5
  infoByte := by kernel_rfl
  cellsByte := by kernel_rfl
  sizeByte := by kernel_rfl
  neB5 := by decide }
open Go.RowKit Go.Lib in
theorem sh_strings_Repeat_main (s : ByteArray) (c : Nat) (w : World) (hc2 : 2 ≤ c) (hc : c ≤ 9223372036854775807) (hlen : s.size * c ≤ 140737488355328) (h0 : 0 < s.size) :
    Calls Try.prog 72 #[.string s, .int .i64 c] w fun e w' => e = .returned (.string ⟨(Lib.repeatL s.data.toList c).toArray⟩) ∧ Below w.heap.size w w' := Any.strings_Repeat_main sh_lays105 sh_Builder_Extra_105 s c w hc2 hc hlen h0
open Go.RowKit Go.Lib in
theorem sh_strings_Repeat_zero (s : ByteArray) (w : World) :
    Calls Try.prog 72 #[.string s, .int .i64 0] w fun e w' => e = .returned (.string ⟨#[]⟩) ∧ w' = w := Any.strings_Repeat_zero sh_lays105 s w
open Go.RowKit Go.Lib in
theorem sh_strings_Repeat_one (s : ByteArray) (w : World) :
    Calls Try.prog 72 #[.string s, .int .i64 1] w fun e w' => e = .returned (.string s) ∧ w' = w := Any.strings_Repeat_one sh_lays105 s w
open Go.RowKit Go.Lib in
theorem sh_strings_Repeat_empty (s : ByteArray) (c : Nat) (w : World) (hc2 : 2 ≤ c) (hc : c ≤ 9223372036854775807) (h0 : s.size = 0) :
    Calls Try.prog 72 #[.string s, .int .i64 c] w fun e w' => e = .returned (.string ⟨#[]⟩) ∧ w' = w := Any.strings_Repeat_empty sh_lays105 s c w hc2 hc h0
open Go.RowKit Go.Lib in
theorem sh_strings_Repeat_negative (s : ByteArray) (c : Int) (w : World) (hc : c < 0) :
    Calls Try.prog 72 #[.string s, .int .i64 c] w fun e w' => e = .panicked [{ v := repeatPanic sh_lays105_ren "strings: negative Repeat count", recovered := false }] ∧ w' = w := Any.strings_Repeat_negative sh_lays105 s c w hc
open Go.RowKit Go.Lib in
theorem sh_strings_Repeat_overflow (s : ByteArray) (c : Nat) (w : World) (hc : c ≤ 9223372036854775807) (hs : s.size ≤ 9223372036854775807) (hbig : 9223372036854775807 < s.size * c) :
    Calls Try.prog 72 #[.string s, .int .i64 c] w fun e w' => e = .panicked [{ v := repeatPanic sh_lays105_ren "strings: Repeat output length overflow", recovered := false }] ∧ w' = w := Any.strings_Repeat_overflow sh_lays105 s c w hc hs hbig
open Go.RowKit Go.Lib in
theorem sh_strings_Repeat (s : ByteArray) (c : Nat) (w : World) (hc : c ≤ 9223372036854775807) (hlen : s.size * c ≤ 140737488355328) :
    Calls Try.prog 72 #[.string s, .int .i64 c] w fun e w' => e = .returned (.string ⟨(Lib.repeatL s.data.toList c).toArray⟩) ∧ Below w.heap.size w w' := Any.strings_Repeat sh_lays105 sh_Builder_Extra_105 s c w hc hlen
end Go.Proofs.Ytkmcnekjimobhaa
