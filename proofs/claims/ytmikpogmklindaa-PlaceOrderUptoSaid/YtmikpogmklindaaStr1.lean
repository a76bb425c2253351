/- What strings.IndexByte, walk.Alpha, walk.shorter and walk.Over answer. -/
import Derived.Test.YtmikpogmklindaaBase
import Derived.Test.YtmikpogmklindaaProg
import Derived.BigQuiet
import Derived.Deep.QuietTactic
import Derived.Lib.Bytealg
import Derived.Lib.IndexLaws
namespace Go.Proofs.Ytmikpogmklindaa
open Go.RowKit

/-- the byte at place k, as a number -/
def bt (l : List UInt8) (k : Nat) : Nat := (l.getD k 0).toNat
theorem bt_of {s : ByteArray} {k : Nat} (h : k < s.size) : s[k].toNat = bt s.data.toList k := by
  have h' : k < s.data.toList.length := by simpa using h
  unfold bt
  rw [List.getD_eq_getElem?_getD, List.getElem?_eq_getElem h']
  rfl
theorem bt_lt (l : List UInt8) (k : Nat) : bt l k < 256 := (l.getD k 0).toNat_lt

def Rises (l : List UInt8) (k : Nat) : Prop := ∀ i, 1 ≤ i → i < k → bt l (i - 1) < bt l i
def AlphaOk (l : List UInt8) : Prop := l ≠ [] ∧ l.length ≤ 8 ∧ Rises l l.length
theorem size_list (s : ByteArray) : s.data.toList.length = s.size := by simp

theorem get_byte {s : ByteArray} {k : Nat} (h : k < s.size) : s.data.toList[k]? = some s[k] := by rw [List.getElem?_eq_getElem (by rw [size_list]; exact h)]; rfl

end Go.Proofs.Ytmikpogmklindaa
