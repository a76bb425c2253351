/- place.Back, and the walk of the law PlaceBack. -/
import Derived.Test.YtmikpogmklindaaDoorPcW
import Derived.Test.YtmikpogmklindaaDoorShU9
import Derived.Test.YtmikpogmklindaaDoorWiA
namespace Go.Proofs.YtmikpogmklindaaDoor
open Go.RowKit

/-- the line that is come to -/
structure AtL (l : List UInt8) (f at_ n : Nat) : Prop where
  le : at_ ≤ f
  nl : at_ = 0 ∨ l[at_ - 1]? = some 10
  cnt : (l.take at_).count 10 = n
theorem AtL.zero (l : List UInt8) (f : Nat) : AtL l f 0 0 := ⟨by omega, .inl rfl, by simp⟩
/-- as long as there are lines to come, there is a byte 10 ahead -/
theorem AtL.more {l : List UInt8} {f at_ n : Nat} (h : AtL l f at_ n) (hl : f ≤ l.length) (hn : n < (l.take f).count 10) :
    ∃ i : Nat, Lib.indexByte (l.drop at_) 10 = (i : Int) ∧ at_ + i < f ∧ AtL l f (at_ + i + 1) (n + 1) := by
  have hle := h.le
  have e : l.take f = l.take at_ ++ (l.drop at_).take (f - at_) := by rw [← List.take_add, show at_ + (f - at_) = f by omega]
  have hc := h.cnt
  rw [e, List.count_append, hc] at hn
  have hm : (10 : UInt8) ∈ (l.drop at_).take (f - at_) := List.count_pos_iff.1 (by omega)
  obtain ⟨j, hj⟩ := List.getElem?_of_mem hm
  have hjl := getElem?_lt hj
  rw [List.length_take, List.length_drop] at hjl
  rw [List.getElem?_take, if_pos (by omega)] at hj
  rcases Int.lt_or_le (Lib.indexByte (l.drop at_) 10) 0 with h0 | h0
  · have h1 := Lib.indexByte_ge (l.drop at_) 10
    exact absurd hj (Lib.indexByte_none (by omega) j)
  · obtain ⟨i, hi⟩ : ∃ i : Nat, Lib.indexByte (l.drop at_) 10 = (i : Int) := ⟨_, (Int.toNat_of_nonneg h0).symm⟩
    obtain ⟨h1, h2⟩ := Lib.indexByte_some hi
    have hij : i ≤ j := Nat.not_lt.1 fun hlt => h2 j hlt hj
    have h1' : l[at_ + i]? = some 10 := by rw [List.getElem?_drop] at h1; exact h1
    refine ⟨i, hi, by omega, by omega, .inr (by rw [Nat.add_sub_cancel]; exact h1'), ?_⟩
    rw [show at_ + i + 1 = at_ + (i + 1) by omega, List.take_add, List.count_append, hc]
    have h3 : (l.drop at_).take (i + 1) = (l.drop at_).take i ++ [10] := by rw [List.take_add_one, h1]; rfl
    rw [h3, List.count_append]
    have h4 : ((l.drop at_).take i).count 10 = 0 := List.count_eq_zero.2 fun hm => by
      obtain ⟨k, hk⟩ := List.getElem?_of_mem hm
      have := getElem?_lt hk
      rw [List.length_take] at this
      rw [List.getElem?_take, if_pos (by omega)] at hk
      exact h2 k (by omega) hk
    rw [h4]
    rfl
theorem AtL.done {l : List UInt8} {a f at_ n : Nat} (h : AtL l f at_ n) (F : IsFrm l a f) (hn : n = (l.take f).count 10) : at_ = f := by
  have hle := h.le
  rcases Nat.lt_or_ge at_ f with hlt | hge
  · rcases F.nl with e | e
    · omega
    · have := count_pos_at hlt e
      have := h.cnt
      omega
  · omega
/-- where the line ends -/
theorem line_end {l : List UInt8} {a f : Nat} (F : IsFrm l a f) (ha : a ≤ l.length) :
    (Lib.indexByte (l.drop f) 10 = -1) ∨ ∃ i : Nat, Lib.indexByte (l.drop f) 10 = (i : Int) ∧ a ≤ f + i ∧ f + i ≤ l.length := by
  have hle := F.le
  rcases Int.lt_or_le (Lib.indexByte (l.drop f) 10) 0 with h0 | h0
  · have h1 := Lib.indexByte_ge (l.drop f) 10
    exact .inl (by omega)
  · obtain ⟨i, hi⟩ : ∃ i : Nat, Lib.indexByte (l.drop f) 10 = (i : Int) := ⟨_, (Int.toNat_of_nonneg h0).symm⟩
    obtain ⟨h1, h2⟩ := Lib.indexByte_some hi
    have hil := getElem?_lt h1
    rw [List.length_drop] at hil
    rw [List.getElem?_drop] at h1
    refine .inr ⟨i, hi, ?_, by omega⟩
    exact Nat.not_lt.1 fun hlt => F.no (f + i) (by omega) hlt h1
/-- the sign at the line's head is the text's -/
theorem wd_line {l : List UInt8} {p e : Nat} (h1 : p + wd (l.drop p) ≤ e) (he : e ≤ l.length) : wd ((l.drop p).take (e - p)) = wd (l.drop p) := by
  have := wd_pos (l.drop p)
  exact wd_take (by omega) (by rw [List.length_drop]; omega) (by omega)
end Go.Proofs.YtmikpogmklindaaDoor
