/- What expr.Name answers. -/
import Derived.Test.YtndhbdbfjkmloaaDoorStr1
namespace Go.Proofs.YtndhbdbfjkmloaaDoor
open Go.RowKit

/-- a letter or a digit, as a number -/
def isLet (c : Nat) : Bool := decide (97 ≤ c ||| 32) && decide (c ||| 32 ≤ 122)
def isDig (c : Nat) : Bool := decide (48 ≤ c) && decide (c ≤ 57)
def nameAt (l : List UInt8) (i : Nat) : Bool := isLet (bt l i) || (i != 0 && isDig (bt l i))
def nameB (l : List UInt8) : Bool := decide (l ≠ []) && decide (l.length ≤ 8) && (List.range l.length).all (nameAt l)

theorem or32 (c : Nat) (h : c < 256) : bits .or .u8 (c : Int) 32 = ((c ||| 32 : Nat) : Int) := by
  have h' : ∀ n : Fin 256, bits .or .u8 ((n : Nat) : Int) 32 = (((n : Nat) ||| 32 : Nat) : Int) := by decide +kernel
  exact h' ⟨c, h⟩
theorem name_no {l : List UInt8} {k : Nat} (hk : k < l.length) (h : nameAt l k = false) : nameB l = false := by
  unfold nameB
  have : (List.range l.length).all (nameAt l) = false := by
    rw [List.all_eq_false]
    exact ⟨k, by simpa using hk, by simp [h]⟩
  rw [this, Bool.and_false]
theorem name_yes {l : List UInt8} (h0 : l ≠ []) (h8 : l.length ≤ 8) (h : ∀ i, i < l.length → nameAt l i = true) : nameB l = true := by
  unfold nameB
  simp [h0, h8]
  exact h

theorem name_any (s : ByteArray) (w : World) : Calls Tryd.prog 33 #[.string s] w fun e w' => e = .returned (.bool (nameB s.data.toList)) ∧ w = w' := by
  have HL := Lib.hid (size_list s)
  by_cases h0 : s.size = 0
  · have he : s.toList = [] := by rw [ByteArray.toList_eq]; exact List.eq_nil_of_length_eq_zero (by rw [HL.out]; exact h0)
    have he' : (!s.toList.isEmpty) = false := by rw [he]; rfl
    have HF : Hid (nameB s.data.toList = false) := by
      show _ = _
      rw [List.eq_nil_of_length_eq_zero (HL.out.trans h0)]; rfl
    go_enter Tryd.func33, Tryd.ntmps33
    go_wp2
    go_ret
    exact ⟨ret_bool HF.out.symm, rfl⟩
  have hne : s.data.toList ≠ [] := fun h => h0 (by rw [← HL.out, h]; rfl)
  have he : s.toList.isEmpty = false := by rw [ByteArray.toList_eq]; cases h : s.data.toList with
    | nil => exact absurd h hne
    | cons _ _ => rfl
  have HNE := Lib.hid hne
  clear hne
  by_cases h8 : 8 < s.size
  · have HF : Hid (nameB s.data.toList = false) := by
      show _ = _
      unfold nameB; rw [HL.out]; simp; omega
    go_enter Tryd.func33, Tryd.ntmps33
    go_wp2
    go_ret
    exact ⟨ret_bool HF.out.symm, rfl⟩
  go_enter Tryd.func33, Tryd.ntmps33
  go_wp2
  go_loop [3, 4, 14] (fun _ _ i => ∃ k : Nat, k ≤ s.size ∧ i = .int .i64 k ∧ ∀ j, j < k → nameAt s.data.toList j = true) (fun _ _ i => s.size - (intOf i).toNat)
  case atStart => exact ⟨0, by omega, rfl, fun j h => by omega⟩
  case round =>
    obtain ⟨k, hk, rfl, hr⟩ := hrel
    have HR := Lib.hid hr
    clear hr
    by_cases hkn : k < s.size
    · have hb := bt_of hkn
      have hor := or32 (bt s.data.toList k) (bt_lt _ _)
      have HA : Hid (nameAt s.data.toList k = (isLet (bt s.data.toList k) || (k != 0 && isDig (bt s.data.toList k)))) := by exact rfl
      generalize hc : bt s.data.toList k = c at hb hor HA
      generalize hd : c ||| 32 = d at hor
      have HLt : Hid (isLet c = (decide (97 ≤ d) && decide (d ≤ 122))) := by show _ = _; rw [← hd]; rfl
      clear hc hd
      have hcase : nameAt s.data.toList k = true ∨ nameAt s.data.toList k = false := by cases nameAt s.data.toList k <;> simp
      by_cases h1 : 97 ≤ d
      · have i1 : ((97 : Int) ≤ (d : Int)) := by omega
        by_cases h2 : d ≤ 122
        · have i2 : ((d : Int) ≤ 122) := by omega
          have HY : Hid (nameAt s.data.toList k = true) := by show _ = _; rw [HA.out, HLt.out]; simp [h1, h2]
          go_wp2
          go_round
          case rel => exact ⟨k + 1, by omega, by go_num, fun j hj => by
            by_cases hjk : j < k
            · exact HR.out j hjk
            · obtain rfl : j = k := by omega
              exact HY.out⟩
          case measure => simp [intOf]; omega
        · have i2 : (((d : Int) ≤ 122)) = False := by simp; omega
          have HN : Hid (isLet c = false) := by show _ = _; rw [HLt.out]; simp; omega
          by_cases hk0 : k = 0
          · subst hk0
            have HY : Hid (nameB s.data.toList = false) := name_no (k := 0) (by rw [HL.out]; omega) (by rw [HA.out, HN.out]; rfl)
            go_wp2
            go_ret
            exact ⟨ret_bool HY.out.symm, rfl⟩
          have bk0 : (((k : Nat) : Int) == 0) = false := by rw [beq_eq_false_iff_ne]; omega
          have bk1 : (k != 0) = true := by rw [bne_iff_ne]; exact hk0
          by_cases h3 : c < 48
          · have i3 : ((c : Int) < 48) := by omega
            have HY : Hid (nameB s.data.toList = false) := name_no (k := k) (by rw [HL.out]; omega) (by rw [HA.out, HN.out]; simp [isDig]; omega)
            go_wp2
            go_ret
            exact ⟨ret_bool HY.out.symm, rfl⟩
          · have i3 : ((c : Int) < 48) = False := by simp; omega
            by_cases h4 : 57 < c
            · have i4 : ((57 : Int) < (c : Int)) := by omega
              have HY : Hid (nameB s.data.toList = false) := name_no (k := k) (by rw [HL.out]; omega) (by rw [HA.out, HN.out]; simp [isDig]; omega)
              go_wp2
              go_ret
              exact ⟨ret_bool HY.out.symm, rfl⟩
            · have i4 : ((57 : Int) < (c : Int)) = False := by simp; omega
              have HY : Hid (nameAt s.data.toList k = true) := by show _ = _; rw [HA.out, HN.out]; simp [isDig, bk1]; omega
              go_wp2
              go_round
              case rel => exact ⟨k + 1, by omega, by go_num, fun j hj => by
                by_cases hjk : j < k
                · exact HR.out j hjk
                · obtain rfl : j = k := by omega
                  exact HY.out⟩
              case measure => simp [intOf]; omega
      · have i1 : (((97 : Int) ≤ (d : Int))) = False := by simp; omega
        have HN : Hid (isLet c = false) := by show _ = _; rw [HLt.out]; simp; omega
        by_cases hk0 : k = 0
        · subst hk0
          have HY : Hid (nameB s.data.toList = false) := name_no (k := 0) (by rw [HL.out]; omega) (by rw [HA.out, HN.out]; rfl)
          go_wp2
          go_ret
          exact ⟨ret_bool HY.out.symm, rfl⟩
        have bk0 : (((k : Nat) : Int) == 0) = false := by rw [beq_eq_false_iff_ne]; omega
        have bk1 : (k != 0) = true := by rw [bne_iff_ne]; exact hk0
        by_cases h3 : c < 48
        · have i3 : ((c : Int) < 48) := by omega
          have HY : Hid (nameB s.data.toList = false) := name_no (k := k) (by rw [HL.out]; omega) (by rw [HA.out, HN.out]; simp [isDig]; omega)
          go_wp2
          go_ret
          exact ⟨ret_bool HY.out.symm, rfl⟩
        · have i3 : ((c : Int) < 48) = False := by simp; omega
          by_cases h4 : 57 < c
          · have i4 : ((57 : Int) < (c : Int)) := by omega
            have HY : Hid (nameB s.data.toList = false) := name_no (k := k) (by rw [HL.out]; omega) (by rw [HA.out, HN.out]; simp [isDig]; omega)
            go_wp2
            go_ret
            exact ⟨ret_bool HY.out.symm, rfl⟩
          · have i4 : ((57 : Int) < (c : Int)) = False := by simp; omega
            have HY : Hid (nameAt s.data.toList k = true) := by show _ = _; rw [HA.out, HN.out]; simp [isDig, bk1]; omega
            go_wp2
            go_round
            case rel => exact ⟨k + 1, by omega, by go_num, fun j hj => by
              by_cases hjk : j < k
              · exact HR.out j hjk
              · obtain rfl : j = k := by omega
                exact HY.out⟩
            case measure => simp [intOf]; omega
    · obtain rfl : k = s.size := by omega
      go_wp2
      go_ret
      exact ⟨ret_bool (name_yes HNE.out (by rw [HL.out]; omega) (by rw [HL.out]; exact HR.out)).symm, rfl⟩
end Go.Proofs.YtndhbdbfjkmloaaDoor
