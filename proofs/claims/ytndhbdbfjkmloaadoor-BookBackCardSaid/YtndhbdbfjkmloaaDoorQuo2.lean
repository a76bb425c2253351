/- What quote.next answers. -/
import Derived.Test.YtndhbdbfjkmloaaDoorQuo1
namespace Go.Proofs.YtndhbdbfjkmloaaDoor
open Go.RowKit

def hexI (n : Nat) : Int := Lib.indexByte hexs.data.toList (UInt8.ofNat n)
/-- the next byte of a text that is not at its end, and how many bytes say it -/
def nextN (sg l : List UInt8) : Nat × Nat :=
  if bt l 0 ≠ 92 then (if bt l 0 = 10 then (0, 0) else (bt l 0, 1))
  else if l.length < 2 then (0, 0)
  else if bt l 1 = 110 then (10, 2)
  else if bt l 1 = 116 then (9, 2)
  else if UInt8.ofNat (bt l 1) ∈ sg then (bt l 1, 2)
  else if bt l 1 = 120 ∧ 4 ≤ l.length then
    (if 0 ≤ hexI (bt l 2) ∧ 0 ≤ hexI (bt l 3) then ((hexI (bt l 2) * 16 + hexI (bt l 3)).toNat, 4) else (0, 0))
  else (0, 0)

theorem hexI_bd (n : Nat) : -1 ≤ hexI n ∧ hexI n < 16 := by
  refine ⟨Lib.indexByte_ge _ _, ?_⟩
  unfold hexI
  rcases Int.lt_or_le (Lib.indexByte hexs.data.toList (UInt8.ofNat n)) 0 with h | h
  · omega
  · have hm := index_mem.1 h
    obtain ⟨k, hk⟩ : ∃ k : Nat, Lib.indexByte hexs.data.toList (UInt8.ofNat n) = k := ⟨_, (Int.toNat_of_nonneg h).symm⟩
    have := getElem?_lt (Lib.indexByte_some hk).1
    rw [hk]
    have hl : hexs.data.toList.length = 16 := rfl
    omega

theorem shl_or (a b : Int) (ha : 0 ≤ a ∧ a < 16) (hb : 0 ≤ b ∧ b < 16) : bits .or .i64 (a * 16) b = a * 16 + b := by
  obtain ⟨n, rfl⟩ := Int.eq_ofNat_of_zero_le ha.1
  obtain ⟨m, rfl⟩ := Int.eq_ofNat_of_zero_le hb.1
  have h : ∀ n m : Fin 16, bits .or .i64 (((n : Nat) : Int) * 16) ((m : Nat) : Int) = ((n : Nat) : Int) * 16 + ((m : Nat) : Int) := by decide +kernel
  exact h ⟨n, by omega⟩ ⟨m, by omega⟩

/-- what quote.next leaves -/
def NextQ (sg l : List UInt8) (w : World) (e : Ending) (w' : World) : Prop :=
  e = .returned (.tuple #[.int .u8 (nextN sg l).1, .int .i64 (nextN sg l).2]) ∧ ∃ d, w' = w.drewN d

theorem nextQ_of {sg l : List UInt8} {w w' : World} {x y : Nat} (h : nextN sg l = (x, y)) (hd : ∃ d, w' = w.drewN d) : NextQ sg l w (.returned (.tuple #[.int .u8 x, .int .i64 y])) w' := ⟨by rw [h], hd⟩

theorem hex_any (c : Nat) (w : World) : Calls Tryd.prog 99 #[.string ⟨#[48, 49, 50, 51, 52, 53, 54, 55, 56, 57, 97, 98, 99, 100, 101, 102]⟩, .int .u8 c] w fun e w' => e = .returned (.int .i64 (hexI c)) ∧ w' = w :=
  (indexByte_any _ _ w).mono fun e w' ⟨h1, h2⟩ => ⟨by rw [h1]; unfold hexI hexs; simp, h2.symm⟩

set_option maxRecDepth 100000 in
theorem nextq_any (s sg : ByteArray) (w : World) (hs : 0 < s.size) :
    Calls Tryd.prog 105 #[.string s, .string sg] w (NextQ sg.data.toList s.data.toList w) := by
  have HL := Lib.hid (size_list s)
  have hb0 := bt_of hs
  generalize hc0 : bt s.data.toList 0 = c0 at hb0
  have hc0b : c0 < 256 := by rw [← hc0]; exact bt_lt _ _
  have HC0 := Lib.hid hc0
  clear hc0
  by_cases h92 : c0 = 92
  · by_cases h2 : s.size < 2
    · have HF : Hid (nextN sg.data.toList s.data.toList = (0, 0)) := by
        show _ = _
        unfold nextN; rw [HC0.out, if_neg (by omega), if_pos (by rw [HL.out]; exact h2)]
      subst h92
      go_enter Tryd.func105, Tryd.ntmps105
      go_wp2
      go_ret2
      exact nextQ_of HF.out ⟨0, rfl⟩
    · have hb1 := bt_of (show 1 < s.size by omega)
      generalize hc1 : bt s.data.toList 1 = c1 at hb1
      have hc1b : c1 < 256 := by rw [← hc1]; exact bt_lt _ _
      have HC1 := Lib.hid hc1
      clear hc1
      have hf : nextN sg.data.toList s.data.toList = (if c1 = 110 then (10, 2) else if c1 = 116 then (9, 2) else if UInt8.ofNat c1 ∈ sg.data.toList then (c1, 2) else if c1 = 120 ∧ 4 ≤ s.size then
          (if 0 ≤ hexI (bt s.data.toList 2) ∧ 0 ≤ hexI (bt s.data.toList 3) then ((hexI (bt s.data.toList 2) * 16 + hexI (bt s.data.toList 3)).toNat, 4) else (0, 0)) else (0, 0)) := by
        unfold nextN; rw [HC0.out, HC1.out, HL.out, if_neg (by omega), if_neg (by omega)]
      have HF := Lib.hid hf
      clear hf
      have h1s : (1 : Int) < (s.size : Int) := by omega
      subst h92
      by_cases h110 : c1 = 110
      · have HFF := Lib.hid (HF.out.trans (if_pos h110))
        subst h110
        go_enter Tryd.func105, Tryd.ntmps105
        go_wp2
        go_ret2
        exact nextQ_of HFF.out ⟨0, rfl⟩
      have b110 : ((c1 : Int) == 110) = false := by rw [beq_eq_false_iff_ne]; omega
      by_cases h116 : c1 = 116
      · have HFF := Lib.hid (HF.out.trans ((if_neg h110).trans (if_pos h116)))
        subst h116
        go_enter Tryd.func105, Tryd.ntmps105
        go_wp2
        go_ret2
        exact nextQ_of HFF.out ⟨0, rfl⟩
      have b116 : ((c1 : Int) == 116) = false := by rw [beq_eq_false_iff_ne]; omega
      have hto : ((c1 : Int)).toNat.toUInt8 = UInt8.ofNat c1 := by simp
      have HTO := Lib.hid hto
      clear hto
      by_cases hin : UInt8.ofNat c1 ∈ sg.data.toList
      · have HFF := Lib.hid (HF.out.trans ((if_neg h110).trans ((if_neg h116).trans (if_pos hin))))
        have hge : 0 ≤ Lib.indexByte sg.data.toList (UInt8.ofNat c1) := index_mem.2 hin
        clear hin
        go_enter Tryd.func105, Tryd.ntmps105
        go_wp2_with (go_at_call 99; refine (indexByte_any _ _ _).mono ?_; rw [HTO.out]; rintro e w' ⟨rfl, rfl⟩)
        go_ret2
        exact nextQ_of HFF.out ⟨0, rfl⟩
      · have hf2 := HF.out.trans ((if_neg h110).trans ((if_neg h116).trans (if_neg hin)))
        have HF2 := Lib.hid hf2
        have hlt : Lib.indexByte sg.data.toList (UInt8.ofNat c1) < 0 := by
          rcases Int.lt_or_le (Lib.indexByte sg.data.toList (UInt8.ofNat c1)) 0 with h | h
          · exact h
          · exact absurd (index_mem.1 h) hin
        clear hf2 hin h110 h116
        by_cases h120 : c1 = 120
        · by_cases h4 : 4 ≤ s.size
          · have hb2 := bt_of (show 2 < s.size by omega)
            have hb3 := bt_of (show 3 < s.size by omega)
            have HF3 := Lib.hid (HF2.out.trans (if_pos ⟨h120, h4⟩))
            generalize bt s.data.toList 2 = c2 at hb2 HF3
            generalize bt s.data.toList 3 = c3 at hb3 HF3
            obtain ⟨a1, a2⟩ := hexI_bd c2
            obtain ⟨d1, d2⟩ := hexI_bd c3
            subst h120
            have hlt' : Lib.indexByte sg.data.toList 120 < 0 := hlt
            have HT2 : Hid (((120 : Int)).toNat.toUInt8 = 120) := by show _ = _; decide
            clear hlt
            by_cases hA : 0 ≤ hexI c2
            · by_cases hB : 0 ≤ hexI c3
              · have HFF := Lib.hid (HF3.out.trans (if_pos ⟨hA, hB⟩))
                have hor := shl_or (hexI c2) (hexI c3) ⟨hA, a2⟩ ⟨hB, d2⟩
                have hto : ((hexI c2 * 16 + hexI c3).toNat : Int) = hexI c2 * 16 + hexI c3 := by omega
                have HTT := Lib.hid hto
                clear hto
                go_enter Tryd.func105, Tryd.ntmps105
                go_wp2_with (go_at_call 99; refine (indexByte_any _ _ _).mono ?_; rw [HT2.out]; rintro e w' ⟨rfl, rfl⟩)
                go_quiet ((go_at_call 99; exact Calls.quiet_of_same (hex_any _ _)))
                go_wp2
                go_ret2
                exact ⟨by rw [HFF.out, HTT.out]; rfl, _, rfl⟩
              · have HFF := Lib.hid (HF3.out.trans (if_neg (fun h => hB h.2)))
                go_enter Tryd.func105, Tryd.ntmps105
                go_wp2_with (go_at_call 99; refine (indexByte_any _ _ _).mono ?_; rw [HT2.out]; rintro e w' ⟨rfl, rfl⟩)
                go_quiet ((go_at_call 99; exact Calls.quiet_of_same (hex_any _ _)))
                go_wp2
                go_ret2
                exact nextQ_of HFF.out ⟨_, rfl⟩
            · have HFF := Lib.hid (HF3.out.trans (if_neg (fun h => hA h.1)))
              go_enter Tryd.func105, Tryd.ntmps105
              go_wp2_with (go_at_call 99; refine (indexByte_any _ _ _).mono ?_; rw [HT2.out]; rintro e w' ⟨rfl, rfl⟩)
              go_quiet ((go_at_call 99; exact Calls.quiet_of_same (hex_any _ _)))
              go_wp2
              go_ret2
              exact nextQ_of HFF.out ⟨_, rfl⟩
          · have HF3 := Lib.hid (HF2.out.trans (if_neg (fun h => h4 h.2)))
            subst h120
            have hlt' : Lib.indexByte sg.data.toList 120 < 0 := hlt
            have HT2 : Hid (((120 : Int)).toNat.toUInt8 = 120) := by show _ = _; decide
            clear hlt
            go_enter Tryd.func105, Tryd.ntmps105
            go_wp2_with (go_at_call 99; refine (indexByte_any _ _ _).mono ?_; rw [HT2.out]; rintro e w' ⟨rfl, rfl⟩)
            go_ret2
            exact nextQ_of HF3.out ⟨0, rfl⟩
        · have HF3 := Lib.hid (HF2.out.trans (if_neg (fun h => h120 h.1)))
          have b120 : ((c1 : Int) == 120) = false := by rw [beq_eq_false_iff_ne]; omega
          go_enter Tryd.func105, Tryd.ntmps105
          go_wp2_with (go_at_call 99; refine (indexByte_any _ _ _).mono ?_; rw [HTO.out]; rintro e w' ⟨rfl, rfl⟩)
          go_ret2
          exact nextQ_of HF3.out ⟨0, rfl⟩
  · have hf : nextN sg.data.toList s.data.toList = if c0 = 10 then (0, 0) else (c0, 1) := by unfold nextN; rw [HC0.out, if_pos h92]
    have HF := Lib.hid hf
    clear hf
    have b92 : ((c0 : Int) != 92) = true := by rw [bne_iff_ne]; omega
    by_cases h10 : c0 = 10
    · have HFF := Lib.hid (HF.out.trans (if_pos h10))
      subst h10
      go_enter Tryd.func105, Tryd.ntmps105
      go_wp2
      go_ret2
      exact nextQ_of HFF.out ⟨0, rfl⟩
    · have HFF := Lib.hid (HF.out.trans (if_neg h10))
      have b10 : ((c0 : Int) == 10) = false := by rw [beq_eq_false_iff_ne]; omega
      go_enter Tryd.func105, Tryd.ntmps105
      go_wp2
      go_ret2
      exact nextQ_of HFF.out ⟨0, rfl⟩
end Go.Proofs.YtndhbdbfjkmloaaDoor
