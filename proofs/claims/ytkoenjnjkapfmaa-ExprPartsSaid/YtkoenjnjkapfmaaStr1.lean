/- What strings.IndexByte, walk.Alpha, walk.shorter and walk.Over answer. -/
import Derived.Test.YtkoenjnjkapfmaaBase
import Derived.Test.YtkoenjnjkapfmaaProg
import Derived.BigQuiet
import Derived.Deep.QuietTactic
import Derived.Lib.Bytealg
import Derived.Lib.IndexLaws
namespace Go.Proofs.Ytkoenjnjkapfmaa
open Go.RowKit

theorem indexByte_lite (s : ByteArray) (c : Int) (w : World) :
    Calls Try.prog 53 #[.string s, .int .u8 c] w fun e w' => e = .returned (.int .i64 (Lib.indexByte s.data.toList c.toNat.toUInt8)) ∧ w = w' := by
  go_enter Try.func53, Try.ntmps53
  go_wp2
  rw [run_callFunc_extern Try.func55 (by kernel_rfl) (by kernel_rfl) (by kernel_rfl) (e := Extern.BytealgIndexByte.indexByte) (by kernel_rfl), Lib.run_indexByteString]
  simp only [Result.andThen]
  rw [Oper.upon_value]
  go_wp2
  go_ret
  exact ⟨rfl, rfl⟩
theorem indexByte_any (s : ByteArray) (c : Int) (w : World) :
    Calls Try.prog 48 #[.string s, .int .u8 c] w fun e w' => e = .returned (.int .i64 (Lib.indexByte s.data.toList c.toNat.toUInt8)) ∧ w = w' := by
  go_enter Try.func48, Try.ntmps48
  go_wp2_with (go_at_call 53; refine (indexByte_lite _ _ _).mono ?_; rintro e w' ⟨rfl, rfl⟩)
  go_ret
  exact ⟨rfl, rfl⟩

/-- the byte at place k, as a number -/
def bt (l : List UInt8) (k : Nat) : Nat := (l.getD k 0).toNat
theorem bt_of {s : ByteArray} {k : Nat} (h : k < s.size) : s[k].toNat = bt s.data.toList k := by
  have h' : k < s.data.toList.length := by simpa using h
  unfold bt
  rw [List.getD_eq_getElem?_getD, List.getElem?_eq_getElem h']
  rfl
theorem bt_lt (l : List UInt8) (k : Nat) : bt l k < 256 := (l.getD k 0).toNat_lt

def Rises (l : List UInt8) (k : Nat) : Prop := ∀ i, 1 ≤ i → i < k → bt l (i - 1) < bt l i
def AlphaOk (l : List UInt8) : Prop := l ≠ [] ∧ l.length ≤ 8 ∧ Rises l l.length
theorem size_list (s : ByteArray) : s.data.toList.length = s.size := by simp

theorem get_byte {s : ByteArray} {k : Nat} (h : k < s.size) : s.data.toList[k]? = some s[k] := by rw [List.getElem?_eq_getElem (by rw [size_list]; exact h)]; rfl

theorem alpha_any (a : ByteArray) (w : World) (hs : a.size ≤ 140737488351232) : Calls Try.prog 45 #[.string a] w fun e w' => (∃ n, e = .returned (.int .i64 n) ∧ (n = 0 ↔ AlphaOk a.data.toList)) ∧ ∃ d, w' = w.drewN d := by
  have hl := size_list a
  have HL := Lib.hid hl
  clear hl
  by_cases h0 : a.size = 0
  · have he : a.toList = [] := by rw [ByteArray.toList_eq]; exact List.eq_nil_of_length_eq_zero (by rw [HL.out]; exact h0)
    have he' : (!a.toList.isEmpty) = false := by rw [he]; rfl
    go_enter Try.func45, Try.ntmps45
    go_wp2
    go_ret
    exact ⟨⟨1, rfl, by simp [AlphaOk, List.eq_nil_of_length_eq_zero (HL.out.trans h0)]⟩, 0, rfl⟩
  have hne : a.data.toList ≠ [] := fun h => h0 (by rw [← HL.out, h]; rfl)
  have he : a.toList.isEmpty = false := by rw [ByteArray.toList_eq]; cases h : a.data.toList with
    | nil => exact absurd h hne
    | cons _ _ => rfl
  by_cases h8 : 8 < a.size
  · have Hn : Hid ((2 : Int) = 0 ↔ AlphaOk a.data.toList) := ⟨fun h => by omega, fun h => by have := h.2.1; rw [HL.out] at this; omega⟩
    go_enter Try.func45, Try.ntmps45
    go_wp2
    go_ret
    exact ⟨⟨2, rfl, Hn.out⟩, 0, rfl⟩
  have HNE := Lib.hid hne
  clear hne
  go_enter Try.func45, Try.ntmps45
  go_wp2
  go_loopw [3] (fun i wr => ∃ k d : Nat, 1 ≤ k ∧ k ≤ a.size ∧ i = .int .i64 k ∧ Rises a.data.toList k ∧ wr = w.drewN d) (fun i _ => a.size - (intOf i).toNat)
  case atStart => exact ⟨1, 0, by omega, by omega, rfl, fun i h1 h2 => by omega, rfl⟩
  case round =>
    obtain ⟨k, d, hk1, hk, rfl, hr, rfl⟩ := hrel
    have HR := Lib.hid hr
    clear hr
    by_cases hkn : k < a.size
    · have hb1 := bt_of hkn
      obtain ⟨j, rfl⟩ : ∃ j, k = j + 1 := ⟨k - 1, by omega⟩
      have hb2 := bt_of (show j < a.size by omega)
      by_cases hlt : bt a.data.toList j < bt a.data.toList (j + 1)
      · have hle : (((bt a.data.toList (j + 1) : Nat) : Int) ≤ ((bt a.data.toList j : Nat) : Int)) = False := by simp; omega
        go_wp2
        go_quiet (fail)
        go_wp2
        go_roundw
        case rel => exact ⟨j + 2, _, by omega, by omega, by go_num, fun i h1 h2 => by
          by_cases hi : i < j + 1
          · exact HR.out i h1 hi
          · obtain rfl : i = j + 1 := by omega
            exact hlt, rfl⟩
        case measure => simp [intOf]; omega
      · have hge : bt a.data.toList (j + 1) ≤ bt a.data.toList j := by omega
        go_wp2
        go_quiet (fail)
        go_wp2
        go_ret
        exact ⟨⟨3, rfl, by simp; exact fun h => absurd (h.2.2 (j + 1) (by omega) (by rw [HL.out]; omega)) (by simpa using hlt)⟩, _, World.drewN_drewN _ _ _⟩
    · obtain rfl : k = a.size := by omega
      go_wp2
      go_ret
      exact ⟨⟨0, rfl, by simp; exact ⟨HNE.out, by rw [HL.out]; omega, by rw [HL.out]; exact HR.out⟩⟩, d, rfl⟩
end Go.Proofs.Ytkoenjnjkapfmaa
