/- What strings.IndexByte, walk.Alpha, walk.shorter and walk.Over answer. -/
import Derived.Test.YtndhbdbfjkmloaaDoorBase
import Derived.Test.YtndhbdbfjkmloaaDoorProg
import Derived.BigQuiet
import Derived.Deep.QuietTactic
import Derived.Lib.Bytealg
import Derived.Lib.IndexLaws
namespace Go.Proofs.YtndhbdbfjkmloaaDoor
open Go.RowKit

set_option maxRecDepth 100000 in
theorem indexByte_lite (s : ByteArray) (c : Int) (w : World) :
    Calls Tryd.prog 122 #[.string s, .int .u8 c] w fun e w' => e = .returned (.int .i64 (Lib.indexByte s.data.toList c.toNat.toUInt8)) ∧ w = w' := by
  go_enter Tryd.func122, Tryd.ntmps122
  go_wp2
  rw [run_callFunc_extern Tryd.func141 (by kernel_rfl) (by kernel_rfl) (by kernel_rfl) (e := Extern.BytealgIndexByte.indexByte) (by kernel_rfl), Lib.run_indexByteString]
  simp only [Result.andThen]
  rw [Oper.upon_value]
  go_wp2
  go_ret
  exact ⟨rfl, rfl⟩
set_option maxRecDepth 100000 in
theorem indexByte_any (s : ByteArray) (c : Int) (w : World) :
    Calls Tryd.prog 99 #[.string s, .int .u8 c] w fun e w' => e = .returned (.int .i64 (Lib.indexByte s.data.toList c.toNat.toUInt8)) ∧ w = w' := by
  go_enter Tryd.func99, Tryd.ntmps99
  go_wp2_with (go_at_call 122; refine (indexByte_lite _ _ _).mono ?_; rintro e w' ⟨rfl, rfl⟩)
  go_ret
  exact ⟨rfl, rfl⟩

/-- the byte at place k, as a number -/
def bt (l : List UInt8) (k : Nat) : Nat := (l.getD k 0).toNat
theorem bt_of {s : ByteArray} {k : Nat} (h : k < s.size) : s[k].toNat = bt s.data.toList k := by
  have h' : k < s.data.toList.length := by simpa using h
  unfold bt
  rw [List.getD_eq_getElem?_getD, List.getElem?_eq_getElem h']
  rfl
theorem bt_lt (l : List UInt8) (k : Nat) : bt l k < 256 := (l.getD k 0).toNat_lt

def Rises (l : List UInt8) (k : Nat) : Prop := ∀ i, 1 ≤ i → i < k → bt l (i - 1) < bt l i
def AlphaOk (l : List UInt8) : Prop := l ≠ [] ∧ l.length ≤ 8 ∧ Rises l l.length
theorem size_list (s : ByteArray) : s.data.toList.length = s.size := by simp

theorem get_byte {s : ByteArray} {k : Nat} (h : k < s.size) : s.data.toList[k]? = some s[k] := by rw [List.getElem?_eq_getElem (by rw [size_list]; exact h)]; rfl

end Go.Proofs.YtndhbdbfjkmloaaDoor
