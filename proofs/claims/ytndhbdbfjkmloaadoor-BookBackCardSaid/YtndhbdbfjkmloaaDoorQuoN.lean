/- quote.next does not look behind what it takes. -/
import Derived.Test.YtndhbdbfjkmloaaDoorQuo2
namespace Go.Proofs.YtndhbdbfjkmloaaDoor
open Go.RowKit

theorem bt_app {e r : List UInt8} {k : Nat} (h : k < e.length) : bt (e ++ r) k = bt e k := by
  unfold bt; rw [List.getD_eq_getElem?_getD, List.getD_eq_getElem?_getD, List.getElem?_append_left h]
theorem nextN_app {sg e r : List UInt8} (h : (nextN sg e).2 ≠ 0) (he : e ≠ []) : nextN sg (e ++ r) = nextN sg e := by
  have h1 : 0 < e.length := by cases e with | nil => exact absurd rfl he | cons => simp
  have e0 := bt_app (r := r) h1
  by_cases h92 : bt e 0 = 92
  · have h2 : 2 ≤ e.length := by
      rcases Nat.lt_or_ge e.length 2 with h' | h'
      · exfalso; apply h; unfold nextN; rw [if_neg (by simpa using h92), if_pos h']
      · exact h'
    have e1 := bt_app (r := r) (show 1 < e.length by omega)
    have hl : ¬ (e ++ r).length < 2 := by rw [List.length_append]; omega
    have key : ∀ l : List UInt8, bt l 0 = 92 → 2 ≤ l.length → nextN sg l = (if bt l 1 = 110 then (10, 2) else if bt l 1 = 116 then (9, 2) else if UInt8.ofNat (bt l 1) ∈ sg then (bt l 1, 2)
        else if bt l 1 = 120 ∧ 4 ≤ l.length then (if 0 ≤ hexI (bt l 2) ∧ 0 ≤ hexI (bt l 3) then ((hexI (bt l 2) * 16 + hexI (bt l 3)).toNat, 4) else (0, 0)) else (0, 0)) := by
      intro l a b
      unfold nextN
      rw [if_neg (by simpa using a), if_neg (by omega)]
    rw [key e h92 h2] at h
    rw [key e h92 h2, key (e ++ r) (by rw [e0]; exact h92) (by omega), e1]
    by_cases a : bt e 1 = 110
    · rw [if_pos a, if_pos a]
    · rw [if_neg a] at h
      rw [if_neg a, if_neg a]
      by_cases b : bt e 1 = 116
      · rw [if_pos b, if_pos b]
      · rw [if_neg b] at h
        rw [if_neg b, if_neg b]
        by_cases c : UInt8.ofNat (bt e 1) ∈ sg
        · rw [if_pos c, if_pos c]
        · rw [if_neg c] at h
          rw [if_neg c, if_neg c]
          by_cases d : bt e 1 = 120 ∧ 4 ≤ e.length
          · have e2 := bt_app (r := r) (show 2 < e.length by omega)
            have e3 := bt_app (r := r) (show 3 < e.length by omega)
            rw [if_pos d, if_pos ⟨d.1, by rw [List.length_append]; omega⟩, e2, e3]
          · rw [if_neg d] at h
            exact absurd rfl h
  · unfold nextN
    rw [e0, if_pos h92, if_pos h92]
theorem nextN_bd (sg l : List UInt8) (hl : l ≠ []) : (nextN sg l).2 ≤ l.length ∧ (nextN sg l).1 < 256 ∧ (nextN sg l).2 ≤ 4 := by
  have h1 : 0 < l.length := by cases l with | nil => exact absurd rfl hl | cons => simp
  have b0 := bt_lt l 0
  have b1 := bt_lt l 1
  have a2 := hexI_bd (bt l 2)
  have a3 := hexI_bd (bt l 3)
  unfold nextN
  split
  · split
    · simp
    · exact ⟨by simp; omega, b0, by simp⟩
  · split
    · simp
    · split
      · exact ⟨by simp; omega, by simp, by simp⟩
      · split
        · exact ⟨by simp; omega, by simp, by simp⟩
        · split
          · exact ⟨by simp; omega, b1, by simp⟩
          · split
            · split
              · rename_i h _
                exact ⟨h.2, by simp only; omega, by simp⟩
              · simp
            · simp
end Go.Proofs.YtndhbdbfjkmloaaDoor
