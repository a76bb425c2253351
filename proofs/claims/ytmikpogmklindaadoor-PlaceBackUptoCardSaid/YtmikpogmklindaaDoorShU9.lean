/- The contract of unicode/utf8.DecodeRuneInString, laid by the kit's shelf at this seat (wip/shelf.py writes this text anew for another seat). -/
import Derived.Shelf.Unicode.DecodeAny
import Derived.Lib.LaidU8T
import Derived.Test.YtmikpogmklindaaDoorPcU
namespace Go.Proofs.YtmikpogmklindaaDoor
open Go.Shelf
def sh_lays197_ren : Go.Shelf.Ren := ⟨fun | 197 => 12 | 260 => 18 | n => n, fun | 9 => 9 | 21 => 21 | 3 => 3 | 4 => 4 | 5 => 5 | 105 => 37 | 119 => 39 | 0 => 0 | 46 => 40 | 139 => 43 | 138 => 42 | n => n, fun | 3 => 1 | 4 => 2 | n => n⟩
theorem sh_lays197 : Go.Proofs.Lays.n197 Tryd.prog sh_lays197_ren := {
  mixed := by kernel_rfl
  f197 := Tryd.func12.trans (congrArg some (by kernel_rfl))
  f260 := Tryd.func18.trans (congrArg some (by kernel_rfl))
  t0 := Tryd.underlying0
  a0 := Tryd.isAgg0
  z0 := Tryd.sizeOf0
  v0 := Tryd.zeroValue0
  t3 := Tryd.underlying3
  a3 := Tryd.isAgg3
  z3 := Tryd.sizeOf3
  v3 := Tryd.zeroValue3
  t4 := Tryd.underlying4
  a4 := Tryd.isAgg4
  z4 := Tryd.sizeOf4
  v4 := Tryd.zeroValue4
  t5 := Tryd.underlying5
  a5 := Tryd.isAgg5
  z5 := Tryd.sizeOf5
  v5 := Tryd.zeroValue5
  t9 := Tryd.underlying9
  a9 := Tryd.isAgg9
  z9 := Tryd.sizeOf9
  v9 := Tryd.zeroValue9
  t21 := Tryd.underlying21
  a21 := Tryd.isAgg21
  z21 := Tryd.sizeOf21
  v21 := Tryd.zeroValue21
  t46 := Tryd.underlying40
  a46 := Tryd.isAgg40
  z46 := Tryd.sizeOf40
  v46 := Tryd.zeroValue40
  t105 := Tryd.underlying37
  a105 := Tryd.isAgg37
  z105 := Tryd.sizeOf37
  v105 := Tryd.zeroValue37
  t119 := Tryd.underlying39
  a119 := Tryd.isAgg39
  z119 := Tryd.sizeOf39
  t138 := Tryd.underlying42
  a138 := Tryd.isAgg42
  z138 := Tryd.sizeOf42
  v138 := Tryd.zeroValue42
  t139 := Tryd.underlying43
  a139 := Tryd.isAgg43
  z139 := Tryd.sizeOf43
  v139 := Tryd.zeroValue43
  g3 := by kernel_rfl
  g4 := by kernel_rfl }
open Go.RowKit Go.Lib in
theorem sh_utf8_DecodeRuneInString (s : ByteArray) (w : World) (hT : Lib.Utf8Tabs 1 2 w) :
    Calls Tryd.prog 12 #[.string s] w fun e w' => e = .returned (.tuple #[.int .i32 (Lib.decodeGo s).1, .int .i64 (Lib.decodeGo s).2]) ∧ Below w.heap.size w w' := Any.utf8_DecodeRuneInString sh_lays197 s w hT
theorem decode_wd0 (s : ByteArray) (hs : 0 < s.size) : (Lib.decodeGo s).2 = wd s.data.toList := by
  have h2 := decode_wd s 0
  rw [List.drop_zero] at h2
  rw [← h2]
  unfold Lib.decodeGo
  rw [if_neg (by omega)]
open Go.RowKit Go.Lib in
/-- how many bytes the first sign has -/
theorem rune_any (s : ByteArray) (hs : 0 < s.size) (w : World) (hT : Lib.Utf8Tabs 1 2 w) :
    Calls Tryd.prog 12 #[.string s] w fun e w' => (∃ r : Int, e = .returned (.tuple #[.int .i32 r, .int .i64 (wd s.data.toList : Nat)])) ∧ Below w.heap.size w w' := by
  refine (sh_utf8_DecodeRuneInString s w hT).mono fun e w' ⟨h, hb⟩ => ⟨⟨(Lib.decodeGo s).1, ?_⟩, hb⟩
  rw [decode_wd0 s hs] at h
  exact h
end Go.Proofs.YtmikpogmklindaaDoor
