/- The contract of strings.Join, laid by the kit's shelf at this seat (wip/shelf.py writes this text anew for another seat). -/
import Derived.Shelf.Strings.Builder1
import Derived.Shelf.Strings.Builder2
import Derived.Shelf.Strings.OnBuilder
import Derived.Shelf.Strings.BuilderF
import Derived.Shelf.Strings.BuilderK
import Derived.Shelf.Strings.Builder2Cap
import Derived.Test.YtphfckihdhmhpaaProg
namespace Go.Proofs.Ytphfckihdhmhpaa
open Go.Shelf
def sh_lays156_ren : Go.Shelf.Ren := ⟨fun | 156 => 71 | 165 => 94 | 166 => 95 | 169 => 96 | 240 => 117 | 241 => 118 | 276 => 129 | 277 => 130 | n => n, fun | 31 => 71 | 9 => 9 | 3 => 3 | 4 => 4 | 0 => 0 | 20 => 20 | 72 => 175 | 76 => 178 | 70 => 172 | 37 => 173 | 75 => 177 | 127 => 204 | 164 => 212 | 5 => 5 | 80 => 180 | n => n, fun | n => n⟩
theorem sh_lays156 : Go.Proofs.Lays.n156 Try.prog sh_lays156_ren := {
  mixed := by kernel_rfl
  f156 := Try.func71.trans (congrArg some (by kernel_rfl))
  f165 := Try.func94.trans (congrArg some (by kernel_rfl))
  f166 := Try.func95.trans (congrArg some (by kernel_rfl))
  f169 := Try.func96.trans (congrArg some (by kernel_rfl))
  f240 := Try.func117.trans (congrArg some (by kernel_rfl))
  f241 := Try.func118.trans (congrArg some (by kernel_rfl))
  f276 := Try.func129.trans (congrArg some (by kernel_rfl))
  f277 := Try.func130.trans (congrArg some (by kernel_rfl))
  t0 := Try.underlying0
  a0 := Try.isAgg0
  z0 := Try.sizeOf0
  v0 := Try.zeroValue0
  t3 := Try.underlying3
  a3 := Try.isAgg3
  z3 := Try.sizeOf3
  v3 := Try.zeroValue3
  t4 := Try.underlying4
  a4 := Try.isAgg4
  z4 := Try.sizeOf4
  v4 := Try.zeroValue4
  t9 := Try.underlying9
  a9 := Try.isAgg9
  z9 := Try.sizeOf9
  v9 := Try.zeroValue9
  t20 := Try.underlying20
  a20 := Try.isAgg20
  z20 := Try.sizeOf20
  v20 := Try.zeroValue20
  t31 := Try.underlying71
  a31 := Try.isAgg71
  z31 := Try.sizeOf71
  v31 := Try.zeroValue71
  t37 := Try.underlying173
  a37 := Try.isAgg173
  z37 := Try.sizeOf173
  v37 := Try.zeroValue173
  t70 := Try.underlying172
  a70 := Try.isAgg172
  z70 := Try.sizeOf172
  v70 := Try.zeroValue172
  t72 := Try.underlying175
  a72 := Try.isAgg175
  z72 := Try.sizeOf175
  v72 := Try.zeroValue175
  t75 := Try.underlying177
  a75 := Try.isAgg177
  z75 := Try.sizeOf177
  v75 := Try.zeroValue177
  t76 := Try.underlying178
  a76 := Try.isAgg178
  z76 := Try.sizeOf178
  v76 := Try.zeroValue178
  t127 := Try.underlying204
  a127 := Try.isAgg204
  z127 := Try.sizeOf204
  v127 := Try.zeroValue204
  t164 := Try.underlying212
  a164 := Try.isAgg212
  z164 := Try.sizeOf212
  v164 := Try.zeroValue212 }
theorem sh_Builder_Extra_156 : Builder.Extra Try.prog sh_lays156_ren := {
  sizeBuilder := by kernel_rfl
  liesBuilder := by kernel_rfl
  t5 := Try.underlying5
  a5 := Try.isAgg5
  z5 := Try.sizeOf5
  v5 := Try.zeroValue5
  infoByte := by kernel_rfl
  cellsByte := by kernel_rfl
  sizeByte := by kernel_rfl
  neB5 := by decide }
open Go.RowKit in
theorem sh_strings_Join_none (a : Option Addr) (c : Nat) (sep : ByteArray) (w : World) :
    Calls Try.prog 71 #[.slice a 0 c, .string sep] w fun e w' => e = .returned (.string ⟨#[]⟩) ∧ w' = w := Any.strings_Join_none sh_lays156 sh_Builder_Extra_156 a c sep w
open Go.RowKit in
theorem sh_strings_Join (bk o c : Nat) (xs : List ByteArray) (sep : ByteArray) (w : World) (hcells : ∀ (j : Nat) x, xs[j]? = some x → w.cell? ⟨bk, o + j, none⟩ = some (.string x)) (hbk : bk < w.heap.size) (hN : xs.length ≤ 140737488355328) (hcap : xs.length ≤ c) (hlen : (Lib.join (xs.map (·.data.toList)) sep.data.toList).length ≤ 140737488355328) :
    Calls Try.prog 71 #[.slice (some ⟨bk, o, none⟩) xs.length c, .string sep] w fun e w' => e = .returned (.string ⟨(Lib.join (xs.map (·.data.toList)) sep.data.toList).toArray⟩) ∧ Below w.heap.size w w' := Any.strings_Join sh_lays156 sh_Builder_Extra_156 bk o c xs sep w hcells hbk hN hcap hlen
end Go.Proofs.Ytphfckihdhmhpaa
