/- Signs by range over a string: the width that the model takes is wd. -/
import Derived.Test.YtmikpogmklindaaDoorPcL
import Derived.Laws.RangeString
import Derived.Laws.RangeAny
namespace Go.Proofs.YtmikpogmklindaaDoor
open Go.RowKit

theorem get_bang (s : ByteArray) (k : Nat) : (s.get! k).toNat = bt s.data.toList k := by
  obtain ⟨⟨l⟩⟩ := s
  show ((⟨l⟩ : Array UInt8)[k]!).toNat = (l.getD k 0).toNat
  rw [List.getD_eq_getElem?_getD]
  simp
  rfl
theorem decode_wd (s : ByteArray) (p : Nat) : (Utf8.decode s p).2 = wd (s.data.toList.drop p) := by
  rw [Lib.decode_at]
  unfold wd
  have hb : ∀ k, bt (s.data.toList.drop p) k = (s.get! (p + k)).toNat := fun k => by
    rw [get_bang]
    unfold bt
    rw [List.getD_eq_getElem?_getD, List.getElem?_drop, ← List.getD_eq_getElem?_getD]
  rw [hb, hb, hb, hb, List.length_drop, size_list]
  rfl
end Go.Proofs.YtmikpogmklindaaDoor
