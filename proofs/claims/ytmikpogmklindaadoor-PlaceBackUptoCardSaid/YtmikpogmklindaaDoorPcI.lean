/- strings.LastIndexByte: where a line begins. -/
import Derived.Test.YtmikpogmklindaaDoorPcL
namespace Go.Proofs.YtmikpogmklindaaDoor
open Go.RowKit

/-- the last place of a byte is one ahead of where the line begins -/
def liB (l : List UInt8) (f : Nat) : Prop := IsFrm l l.length f
set_option maxRecDepth 100000 in
set_option maxHeartbeats 4000000 in
theorem lastIn_any (s : ByteArray) (hs : s.size ≤ 1048576) (w : World) : Calls Tryd.prog 13 #[.string s, .int .u8 10] w fun e w' => (∃ f : Nat, e = .returned (.int .i64 ((f : Int) - 1)) ∧ liB s.data.toList f) ∧ w' = w := by
  have HL := Lib.hid (size_list s)
  go_enter Tryd.func13, Tryd.ntmps13
  go_wp2
  go_loopw [5] (fun i wr => ∃ f : Nat, f ≤ s.size ∧ i = .int .i64 ((f : Int) - 1) ∧ Hid (∀ j, f ≤ j → j < s.size → s.data.toList[j]? ≠ some 10) ∧ wr = w) (fun i _ => (intOf i + 1).toNat)
  case atStart => exact ⟨s.size, by omega, by go_num, (fun j h1 h2 => by omega), rfl⟩
  case round =>
    obtain ⟨f, hf, rfl, HN, hw⟩ := hrel
    by_cases h0 : f = 0
    · subst h0
      go_wp2
      go_ret
      exact ⟨⟨0, rfl, Nat.zero_le _, .inl rfl, fun i h1 h2 => HN.out i h1 (by rw [HL.out] at h2; exact h2)⟩, by first | rfl | exact hw⟩
    · obtain ⟨k, rfl⟩ : ∃ k, f = k + 1 := ⟨f - 1, by omega⟩
      have hb := bt_of (show k < s.size by omega)
      have hg := get_byte (show k < s.size by omega)
      rw [show (((k + 1 : Nat) : Int) - 1) = (k : Int) by omega]
      have hk0 : (0 : Int) ≤ (k : Int) := by omega
      have hk1 : (k : Int) < (s.size : Int) := by omega
      by_cases h10 : bt s.data.toList k = 10
      · have HB : Hid (liB s.data.toList (k + 1)) := by
          have h10' : s[k] = 10 := by
            refine UInt8.toNat_inj.1 ?_
            rw [hb, h10]
            rfl
          refine ⟨by rw [HL.out]; omega, .inr ?_, fun i h1 h2 => HN.out i h1 (by rw [HL.out] at h2; exact h2)⟩
          rw [Nat.add_sub_cancel, hg, h10']
        clear hg HN
        rw [h10] at hb
        go_wp2
        go_ret
        exact ⟨⟨k + 1, by rw [show (((k + 1 : Nat) : Int) - 1) = (k : Int) by omega]; rfl, HB.out⟩, by first | rfl | exact hw⟩
      · have HB : Hid (∀ j, k ≤ j → j < s.size → s.data.toList[j]? ≠ some 10) := fun j h1 h2 => by
          by_cases h : j = k
          · subst h
            rw [hg]
            intro e
            injection e with e
            rw [e] at hb
            exact h10 hb.symm
          · exact HN.out j (by omega) h2
        clear hg HN
        have hq : ((bt s.data.toList k : Int) == 10) = false := by rw [beq_eq_false_iff_ne]; omega
        go_wp2
        go_roundw
        case rel => exact ⟨k, by omega, by first | rfl | go_num, HB, by first | trivial | exact hw⟩
        case measure => first | (simp [intOf]; done) | (simp [intOf]; omega)
set_option maxRecDepth 100000 in
theorem last_any (s : ByteArray) (hs : s.size ≤ 1048576) (w : World) : Calls Tryd.prog 8 #[.string s, .int .u8 10] w fun e w' => (∃ f : Nat, e = .returned (.int .i64 ((f : Int) - 1)) ∧ liB s.data.toList f) ∧ w' = w := by
  go_enter Tryd.func8, Tryd.ntmps8
  go_wp2_with (go_at_call 13; refine (lastIn_any _ hs _).mono ?_; rintro e w' ⟨⟨f, rfl, hf⟩, rfl⟩)
  go_ret
  exact ⟨⟨f, rfl, hf⟩, rfl⟩
end Go.Proofs.YtmikpogmklindaaDoor
