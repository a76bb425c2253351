/- The contract of strconv.Atoi, laid by the kit's shelf at this seat (wip/shelf.py writes this text anew for another seat). -/
import Derived.Shelf.Strings.Builder1
import Derived.Shelf.Small.Strs
import Derived.Shelf.Strconv.Atoi
import Derived.Shelf.Strconv.Itoa0
import Derived.Shelf.Strconv.Itoa1
import Derived.Shelf.LaysM
import Derived.Shelf.Strconv.Itoa2
import Derived.Shelf.Strconv.Itoa3
import Derived.Shelf.Strconv.AtoiErrFast
import Derived.Shelf.Strconv.ParseIntEmpty
import Derived.Shelf.Strconv.AtoiFail
import Derived.Shelf.Strconv.Clone
import Derived.Shelf.Strconv.SyntaxError
import Derived.Shelf.LaysC
import Derived.Shelf.Strconv.ToError
import Derived.Shelf.Strconv.Lower
import Derived.Shelf.Strconv.ParseUint10
import Derived.Shelf.Strconv.ParseUint10Empty
import Derived.Shelf.Strconv.ParseUint10Any
import Derived.Shelf.Strconv.ParseInt10
import Derived.Shelf.Strconv.AtoiLong
import Derived.Shelf.Strconv.AtoiInnerAll
import Derived.Shelf.Strconv.RangeError
import Derived.Shelf.Strconv.ToErrorRange
import Derived.Shelf.Strconv.AtoiAll
import Derived.Shelf.Strings.Search1
import Derived.Shelf.Strings.Search2
import Derived.Shelf.Strings.Search3
import Derived.Shelf.Strings.Cut
import Derived.Shelf.Strings.Count
import Derived.Shelf.Strings.Shaped
import Derived.Shelf.Strings.Split
import Derived.Shelf.Unicode.DecodeSlow
import Derived.Test.YtndhbdbfjkmloaaDoorProg
namespace Go.Proofs.YtndhbdbfjkmloaaDoor
open Go.Shelf
def sh_laysC172_ren : Go.Shelf.Ren := ⟨fun | 172 => 104 | 244 => 127 | 245 => 128 | 247 => 146 | 279 => 147 | 280 => 148 | 281 => 149 | 282 => 150 | 287 => 160 | 316 => 161 | 171 => 72 | 205 => 162 | 321 => 164 | 322 => 165 | 243 => 98 | 246 => 121 | 283 => 137 | 284 => 138 | 285 => 139 | 286 => 140 | 129 => 155 | 317 => 154 | 318 => 156 | 319 => 157 | 320 => 158 | 337 => 163 | 338 => 112 | n => n, fun | 9 => 9 | 3 => 3 | 75 => 163 | 76 => 164 | 4 => 4 | 5 => 5 | 167 => 204 | 37 => 158 | 0 => 0 | 85 => 205 | 2 => 2 | 168 => 207 | 53 => 22 | 175 => 224 | 46 => 154 | 210 => 227 | 127 => 183 | 145 => 233 | 143 => 231 | 21 => 21 | 171 => 200 | 173 => 202 | 212 => 213 | 51 => 214 | 20 => 20 | 213 => 215 | 232 => 234 | 233 => 194 | 80 => 166 | n => n, fun | 15 => 5 | 16 => 6 | 17 => 2 | 18 => 7 | 19 => 0 | n => n⟩
theorem sh_laysC172 : Go.Proofs.LaysC.n172 Tryd.prog sh_laysC172_ren := {
  mixed := by kernel_rfl
  f129 := Tryd.func155.trans (congrArg some (by kernel_rfl))
  f171 := Tryd.func72.trans (congrArg some (by kernel_rfl))
  f172 := Tryd.func104.trans (congrArg some (by kernel_rfl))
  f205 := Tryd.func162.trans (congrArg some (by kernel_rfl))
  f243 := Tryd.func98.trans (congrArg some (by kernel_rfl))
  f244 := Tryd.func127.trans (congrArg some (by kernel_rfl))
  f245 := Tryd.func128.trans (congrArg some (by kernel_rfl))
  f246 := Tryd.func121.trans (congrArg some (by kernel_rfl))
  f247 := Tryd.func146.trans (congrArg some (by kernel_rfl))
  f279 := Tryd.func147.trans (congrArg some (by kernel_rfl))
  f280 := Tryd.func148.trans (congrArg some (by kernel_rfl))
  f281 := Tryd.func149.trans (congrArg some (by kernel_rfl))
  f282 := Tryd.func150.trans (congrArg some (by kernel_rfl))
  f283 := Tryd.func137.trans (congrArg some (by kernel_rfl))
  f284 := Tryd.func138.trans (congrArg some (by kernel_rfl))
  f285 := Tryd.func139.trans (congrArg some (by kernel_rfl))
  f286 := Tryd.func140.trans (congrArg some (by kernel_rfl))
  f287 := Tryd.func160.trans (congrArg some (by kernel_rfl))
  f316 := Tryd.func161.trans (congrArg some (by kernel_rfl))
  f317 := Tryd.func154.trans (congrArg some (by kernel_rfl))
  f318 := Tryd.func156.trans (congrArg some (by kernel_rfl))
  f319 := Tryd.func157.trans (congrArg some (by kernel_rfl))
  f320 := Tryd.func158.trans (congrArg some (by kernel_rfl))
  f321 := Tryd.func164.trans (congrArg some (by kernel_rfl))
  f322 := Tryd.func165.trans (congrArg some (by kernel_rfl))
  f337 := Tryd.func163.trans (congrArg some (by kernel_rfl))
  f338 := Tryd.func112.trans (congrArg some (by kernel_rfl))
  t0 := Tryd.underlying0
  a0 := Tryd.isAgg0
  z0 := Tryd.sizeOf0
  v0 := Tryd.zeroValue0
  t2 := Tryd.underlying2
  a2 := Tryd.isAgg2
  z2 := Tryd.sizeOf2
  v2 := Tryd.zeroValue2
  t3 := Tryd.underlying3
  a3 := Tryd.isAgg3
  z3 := Tryd.sizeOf3
  v3 := Tryd.zeroValue3
  t4 := Tryd.underlying4
  a4 := Tryd.isAgg4
  z4 := Tryd.sizeOf4
  v4 := Tryd.zeroValue4
  t5 := Tryd.underlying5
  a5 := Tryd.isAgg5
  z5 := Tryd.sizeOf5
  v5 := Tryd.zeroValue5
  t9 := Tryd.underlying9
  a9 := Tryd.isAgg9
  z9 := Tryd.sizeOf9
  v9 := Tryd.zeroValue9
  t20 := Tryd.underlying20
  a20 := Tryd.isAgg20
  z20 := Tryd.sizeOf20
  v20 := Tryd.zeroValue20
  t21 := Tryd.underlying21
  a21 := Tryd.isAgg21
  z21 := Tryd.sizeOf21
  v21 := Tryd.zeroValue21
  t37 := Tryd.underlying158
  a37 := Tryd.isAgg158
  z37 := Tryd.sizeOf158
  v37 := Tryd.zeroValue158
  t46 := Tryd.underlying154
  a46 := Tryd.isAgg154
  z46 := Tryd.sizeOf154
  v46 := Tryd.zeroValue154
  t51 := Tryd.underlying214
  a51 := Tryd.isAgg214
  z51 := Tryd.sizeOf214
  v51 := Tryd.zeroValue214
  t53 := Tryd.underlying22
  a53 := Tryd.isAgg22
  z53 := Tryd.sizeOf22
  v53 := Tryd.zeroValue22
  t75 := Tryd.underlying163
  a75 := Tryd.isAgg163
  z75 := Tryd.sizeOf163
  v75 := Tryd.zeroValue163
  t76 := Tryd.underlying164
  a76 := Tryd.isAgg164
  z76 := Tryd.sizeOf164
  v76 := Tryd.zeroValue164
  t85 := Tryd.underlying205
  a85 := Tryd.isAgg205
  z85 := Tryd.sizeOf205
  v85 := Tryd.zeroValue205
  t127 := Tryd.underlying183
  a127 := Tryd.isAgg183
  z127 := Tryd.sizeOf183
  v127 := Tryd.zeroValue183
  t143 := Tryd.underlying231
  a143 := Tryd.isAgg231
  z143 := Tryd.sizeOf231
  v143 := Tryd.zeroValue231
  t145 := Tryd.underlying233
  a145 := Tryd.isAgg233
  z145 := Tryd.sizeOf233
  v145 := Tryd.zeroValue233
  t167 := Tryd.underlying204
  a167 := Tryd.isAgg204
  z167 := Tryd.sizeOf204
  v167 := Tryd.zeroValue204
  t168 := Tryd.underlying207
  a168 := Tryd.isAgg207
  z168 := Tryd.sizeOf207
  v168 := Tryd.zeroValue207
  t171 := Tryd.underlying200
  a171 := Tryd.isAgg200
  z171 := Tryd.sizeOf200
  v171 := Tryd.zeroValue200
  t173 := Tryd.underlying202
  a173 := Tryd.isAgg202
  z173 := Tryd.sizeOf202
  v173 := Tryd.zeroValue202
  t175 := Tryd.underlying224
  a175 := Tryd.isAgg224
  z175 := Tryd.sizeOf224
  v175 := Tryd.zeroValue224
  t210 := Tryd.underlying227
  a210 := Tryd.isAgg227
  z210 := Tryd.sizeOf227
  v210 := Tryd.zeroValue227
  t212 := Tryd.underlying213
  a212 := Tryd.isAgg213
  z212 := Tryd.sizeOf213
  v212 := Tryd.zeroValue213
  t213 := Tryd.underlying215
  a213 := Tryd.isAgg215
  z213 := Tryd.sizeOf215
  t232 := Tryd.underlying234
  a232 := Tryd.isAgg234
  z232 := Tryd.sizeOf234
  v232 := Tryd.zeroValue234
  t233 := Tryd.underlying194
  a233 := Tryd.isAgg194
  z233 := Tryd.sizeOf194
  v233 := Tryd.zeroValue194
  g15 := by kernel_rfl
  g16 := by kernel_rfl
  g17 := by kernel_rfl
  g18 := by kernel_rfl
  g19 := by kernel_rfl
  t80 := Tryd.underlying166
  a80 := Tryd.isAgg166
  z80 := Tryd.sizeOf166
  v80 := Tryd.zeroValue166
  i0 := by kernel_rfl
  i2 := by kernel_rfl
  i3 := by kernel_rfl
  i4 := by kernel_rfl
  i5 := by kernel_rfl
  i9 := by kernel_rfl
  i20 := by kernel_rfl
  i21 := by kernel_rfl
  i37 := by kernel_rfl
  i46 := by kernel_rfl
  i51 := by kernel_rfl
  i53 := by kernel_rfl
  i75 := by kernel_rfl
  i76 := by kernel_rfl
  i80 := by kernel_rfl
  i85 := by kernel_rfl
  i127 := by kernel_rfl
  i143 := by kernel_rfl
  i145 := by kernel_rfl
  i167 := by kernel_rfl
  i168 := by kernel_rfl
  i171 := by kernel_rfl
  i173 := by kernel_rfl
  i175 := by kernel_rfl
  i210 := by kernel_rfl
  i212 := by kernel_rfl
  i232 := by kernel_rfl
  i233 := by kernel_rfl
  m15 := by kernel_rfl
  m16 := by kernel_rfl
  m17 := by kernel_rfl
  m18 := by kernel_rfl
  m19 := by kernel_rfl
  c0 := by kernel_rfl
  c2 := by kernel_rfl
  c3 := by kernel_rfl
  c4 := by kernel_rfl
  c5 := by kernel_rfl
  c9 := by kernel_rfl
  c20 := by kernel_rfl
  c21 := by kernel_rfl
  c37 := by kernel_rfl
  c46 := by kernel_rfl
  c51 := by kernel_rfl
  c53 := by kernel_rfl
  c75 := by kernel_rfl
  c76 := by kernel_rfl
  c80 := by kernel_rfl
  c85 := by kernel_rfl
  c127 := by kernel_rfl
  c143 := by kernel_rfl
  c145 := by kernel_rfl
  c167 := by kernel_rfl
  c168 := by kernel_rfl
  c171 := by kernel_rfl
  c173 := by kernel_rfl
  c175 := by kernel_rfl
  c210 := by kernel_rfl
  c212 := by kernel_rfl
  c213 := by kernel_rfl
  c232 := by kernel_rfl
  c233 := by kernel_rfl }
open Go.RowKit in
theorem sh_strconv_Atoi_ok (s : ByteArray) (hmax : s.size ≤ 9223372036854775806) (v : Int) (h : Lib.atoiAll s.data.toList = .ok v) (w : World) :
    Calls Tryd.prog 104 #[.string s] w fun e w' => e = .returned (.tuple #[.int .i64 v, .nilIface]) ∧ (w' = w ∨ ∃ t, w' = Lib.bytesWorld w 5 t) := Any.strconv_Atoi_ok sh_laysC172 s hmax v h w
open Go.RowKit in
theorem sh_strconv_Atoi_syntax (s : ByteArray) (hlim : s.size ≤ 281474976710656) (h : Lib.atoiAll s.data.toList = .«syntax») (ev : Value) (w : World) (hv : w.cell? ⟨5, 0, none⟩ = some ev) (hev : ev = .nilIface ∨ ∃ te pe, ev = .iface te pe) :
    Calls Tryd.prog 104 #[.string s] w fun e w' => ∃ N, e = .returned (.tuple #[.int .i64 (0), .iface 207 (.pointer (some ⟨N, 0, none⟩))]) ∧ w.heap.size ≤ N ∧ w'.heap[N]? = some (.cells #[.string ⟨#[65, 116, 111, 105]⟩, .string s, ev] 227 (0, 0)) ∧ Below w.heap.size w w' := Any.strconv_Atoi_syntax sh_laysC172 s hlim h ev w hv hev
open Go.RowKit in
theorem sh_strconv_Atoi_range (s : ByteArray) (hlim : s.size ≤ 281474976710656) (h : Lib.atoiAll s.data.toList = .range) (ev : Value) (w : World) (hv : w.cell? ⟨6, 0, none⟩ = some ev) (hev : ev = .nilIface ∨ ∃ te pe, ev = .iface te pe) :
    Calls Tryd.prog 104 #[.string s] w fun e w' => ∃ N, e = .returned (.tuple #[.int .i64 (Lib.atoiSat s.data.toList), .iface 207 (.pointer (some ⟨N, 0, none⟩))]) ∧ w.heap.size ≤ N ∧ w'.heap[N]? = some (.cells #[.string ⟨#[65, 116, 111, 105]⟩, .string s, ev] 227 (0, 0)) ∧ Below w.heap.size w w' := Any.strconv_Atoi_range sh_laysC172 s hlim h ev w hv hev
end Go.Proofs.YtndhbdbfjkmloaaDoor
