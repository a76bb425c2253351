/- chaffref.first: how long the first sign is, if it is one. -/
import Derived.Test.YtmikpogmklindaaDoorPcL
namespace Go.Proofs.YtmikpogmklindaaDoor
open Go.RowKit

/-- the bits of the first sign, so far -/
def vN (m : Nat) (l : List UInt8) : Nat → Nat
  | 0 => bt l 0 % m
  | k + 1 => vN m l k * 64 + bt l (k + 1) % 64
theorem vN_lt {m : Nat} (l : List UInt8) (h0 : 0 < m) (h : m ≤ 32) : ∀ k < 4, vN m l k < 32 * 64 ^ k := by
  intro k
  induction k with
  | zero => intro _; have := Nat.mod_lt (bt l 0) h0; unfold vN; omega
  | succ k ih =>
    intro hk
    have := ih (by omega)
    unfold vN
    rw [Nat.pow_succ]
    have := Nat.mod_lt (bt l (k + 1)) (show 0 < 64 by decide)
    omega
theorem vN_big {m : Nat} (l : List UInt8) (h0 : 0 < m) (h : m ≤ 32) {k : Nat} (hk : k < 4) : vN m l k < 8388608 := by
  have := vN_lt l h0 h k hk
  rcases (show k = 0 ∨ k = 1 ∨ k = 2 ∨ k = 3 by omega) with rfl | rfl | rfl | rfl <;> omega
/-- a sign of n bytes: what first answers -/
structure Kd (l : List UInt8) (n m low R : Nat) : Prop where
  short : l.length < n → R = 0
  bad : ∀ j, 1 ≤ j → j < n → badB (bt l j) → R = 0
  big : bigV low (vN m l (n - 1)) → R = 0
  ok : n ≤ l.length → (∀ j, 1 ≤ j → j < n → ¬ badB (bt l j)) → ¬ bigV low (vN m l (n - 1)) → R = n
def firL (l : List UInt8) : Nat := firN l.length (bt l 0) (bt l 1) (bt l 2) (bt l 3)
theorem kd2 {l : List UInt8} (h1 : 194 ≤ bt l 0) (h2 : bt l 0 < 224) : Kd l 2 32 128 (firL l) := by
  have e : firL l = if l.length < 2 ∨ badB (bt l 1) ∨ bigV 128 (vN 32 l 1) then 0 else 2 := by
    unfold firL firN
    rw [if_neg (by omega), if_pos (by omega)]
    rfl
  rw [e]
  refine ⟨fun h => if_pos (.inl h), fun j j1 j2 h => if_pos ?_, fun h => if_pos (.inr (.inr h)), fun a b c => if_neg ?_⟩
  · obtain rfl : j = 1 := by omega
    exact .inr (.inl h)
  · rintro (h | h | h)
    · omega
    · exact b 1 (by omega) (by omega) h
    · exact c h
theorem kd3 {l : List UInt8} (h1 : 224 ≤ bt l 0) (h2 : bt l 0 < 240) : Kd l 3 16 2048 (firL l) := by
  have e : firL l = if l.length < 3 ∨ badB (bt l 1) ∨ badB (bt l 2) ∨ bigV 2048 (vN 16 l 2) then 0 else 3 := by
    unfold firL firN
    rw [if_neg (by omega), if_neg (by omega), if_pos (by omega)]
    rfl
  rw [e]
  refine ⟨fun h => if_pos (.inl h), fun j j1 j2 h => if_pos ?_, fun h => if_pos (.inr (.inr (.inr h))), fun a b c => if_neg ?_⟩
  · rcases (show j = 1 ∨ j = 2 by omega) with rfl | rfl
    · exact .inr (.inl h)
    · exact .inr (.inr (.inl h))
  · rintro (h | h | h | h)
    · omega
    · exact b 1 (by omega) (by omega) h
    · exact b 2 (by omega) (by omega) h
    · exact c h
theorem kd4 {l : List UInt8} (h1 : 240 ≤ bt l 0) (h2 : bt l 0 < 245) : Kd l 4 8 65536 (firL l) := by
  have e : firL l = if l.length < 4 ∨ badB (bt l 1) ∨ badB (bt l 2) ∨ badB (bt l 3) ∨ bigV 65536 (vN 8 l 3) then 0 else 4 := by
    unfold firL firN
    rw [if_neg (by omega), if_neg (by omega), if_neg (by omega), if_pos (by omega)]
    rfl
  rw [e]
  refine ⟨fun h => if_pos (.inl h), fun j j1 j2 h => if_pos ?_, fun h => if_pos (.inr (.inr (.inr (.inr h)))), fun a b c => if_neg ?_⟩
  · rcases (show j = 1 ∨ j = 2 ∨ j = 3 by omega) with rfl | rfl | rfl
    · exact .inr (.inl h)
    · exact .inr (.inr (.inl h))
    · exact .inr (.inr (.inr (.inl h)))
  · rintro (h | h | h | h | h)
    · omega
    · exact b 1 (by omega) (by omega) h
    · exact b 2 (by omega) (by omega) h
    · exact b 3 (by omega) (by omega) h
    · exact c h
theorem firL_le (l : List UInt8) : firL l ≤ 4 := by
  unfold firL firN
  repeat' split
  all_goals omega
theorem firL_wd (l : List UInt8) : max 1 (firL l) = wd l := fir_dec _ _ _ _ _ (bt_lt l 0) (bt_lt l 1) (bt_lt l 2) (bt_lt l 3)

set_option maxRecDepth 100000 in
set_option maxHeartbeats 4000000 in
theorem first_any (s : ByteArray) (hs : 0 < s.size) (w : World) : Calls Tryd.prog 10 #[.string s] w fun e w' => e = .returned (.int .i64 (firL s.data.toList : Nat)) ∧ w' = w := by
  have HL := Lib.hid (size_list s)
  have hb0 := bt_of hs
  have hbl := bt_lt s.data.toList 0
  by_cases hA : bt s.data.toList 0 < 128
  · have HR : Hid (firL s.data.toList = 1) := by show _ = _; unfold firL firN; rw [if_pos hA]
    generalize firL s.data.toList = R at HR ⊢
    go_enter Tryd.func10, Tryd.ntmps10
    go_wp2
    go_ret
    exact ⟨by rw [HR.out]; rfl, rfl⟩
  · by_cases hC : 194 ≤ bt s.data.toList 0 ∧ bt s.data.toList 0 < 245
    · have hm32 : (bt s.data.toList 0 : Int).tmod 32 = ((bt s.data.toList 0 % 32 : Nat) : Int) := by rw [Int.tmod_eq_emod_of_nonneg (by omega)]; omega
      have hm16 : (bt s.data.toList 0 : Int).tmod 16 = ((bt s.data.toList 0 % 16 : Nat) : Int) := by rw [Int.tmod_eq_emod_of_nonneg (by omega)]; omega
      have hm8 : (bt s.data.toList 0 : Int).tmod 8 = ((bt s.data.toList 0 % 8 : Nat) : Int) := by rw [Int.tmod_eq_emod_of_nonneg (by omega)]; omega
      rcases (show (194 ≤ bt s.data.toList 0 ∧ bt s.data.toList 0 < 224) ∨ (224 ≤ bt s.data.toList 0 ∧ bt s.data.toList 0 < 240) ∨ (240 ≤ bt s.data.toList 0 ∧ bt s.data.toList 0 < 245) by omega) with ⟨c1, c2⟩ | ⟨c1, c2⟩ | ⟨c1, c2⟩
      · have HK := Lib.hid (kd2 c1 c2)
        have e1 : decide ((bt s.data.toList 0 : Int) < 128) = false := decide_eq_false (by omega)
        have e2 : decide ((194 : Int) ≤ (bt s.data.toList 0 : Int)) = true := decide_eq_true (by omega)
        have e3 : decide ((bt s.data.toList 0 : Int) < 224) = true := by simp; omega
        have e4 : decide ((224 : Int) ≤ (bt s.data.toList 0 : Int)) = false := by simp; omega
        have e5 : decide ((bt s.data.toList 0 : Int) < 240) = true := by simp; omega
        have e6 : decide ((240 : Int) ≤ (bt s.data.toList 0 : Int)) = false := by simp; omega
        have e7 : decide ((bt s.data.toList 0 : Int) < 245) = true := by simp; omega
        by_cases hn : s.size < 2
        · have HR : Hid (firL s.data.toList = 0) := HK.out.short (by rw [HL.out]; exact hn)
          generalize firL s.data.toList = R at HR ⊢
          go_enter Tryd.func10, Tryd.ntmps10
          go_wp2
          go_ret
          exact ⟨by rw [HR.out]; rfl, rfl⟩
        · generalize firL s.data.toList = R at HK ⊢
          have e8 : decide ((s.size : Int) < 2) = false := by simp; omega
          go_enter Tryd.func10, Tryd.ntmps10
          go_wp2
          go_loopw [6, 7] (fun v i wr => ∃ k : Nat, k < 2 ∧ v = .int .i64 (vN 32 s.data.toList k : Nat) ∧ i = .int .i64 (k + 1 : Nat) ∧ Hid (∀ j, 1 ≤ j → j ≤ k → ¬ badB (bt s.data.toList j)) ∧ wr = w) (fun _ i _ => 2 - (intOf i).toNat)
          case atStart => exact ⟨0, by omega, rfl, rfl, (fun j h1 h2 => by omega), rfl⟩
          case round =>
            obtain ⟨k, hk, rfl, rfl, HB, hw⟩ := hrel
            have hv := vN_big (m := 32) s.data.toList (by decide) (by decide) (show k < 4 by omega)
            by_cases hk1 : k + 1 < 2
            · have hb := bt_of (show k + 1 < s.size by omega)
              have hb2 := bt_lt s.data.toList (k + 1)
              by_cases hbad : badB (bt s.data.toList (k + 1))
              · have HR : Hid (R = 0) := HK.out.bad (k + 1) (by omega) hk1 hbad
                rcases hbad with h | h
                all_goals
                  go_wp2
                  go_ret
                  exact ⟨by rw [HR.out]; rfl, by first | rfl | exact hw⟩
              · have hg1 : ¬ bt s.data.toList (k + 1) < 128 := fun h => hbad (.inl h)
                have hg2 : ¬ 191 < bt s.data.toList (k + 1) := fun h => hbad (.inr h)
                have hm : (bt s.data.toList (k + 1) : Int).tmod 64 = ((bt s.data.toList (k + 1) % 64 : Nat) : Int) := by rw [Int.tmod_eq_emod_of_nonneg (by omega)]; omega
                have HB2 : Hid (∀ j, 1 ≤ j → j ≤ k + 1 → ¬ badB (bt s.data.toList j)) := fun j h1 h2 => by
                  by_cases h : j = k + 1
                  · rw [h]; exact hbad
                  · exact HB.out j h1 (by omega)
                have HV : Hid (vN 32 s.data.toList (k + 1) = vN 32 s.data.toList k * 64 + bt s.data.toList (k + 1) % 64) := rfl
                clear hbad
                go_wp2
                go_roundw
                case rel => exact ⟨k + 1, hk1, by rw [HV.out]; go_num, by go_num, HB2, by first | trivial | exact hw⟩
                case measure => simp [intOf]; omega
            · obtain rfl : k = 2 - 1 := by omega
              have HG : Hid (∀ j, 1 ≤ j → j < 2 → ¬ badB (bt s.data.toList j)) := fun j h1 h2 => HB.out j h1 (by omega)
              have HK1 : Hid (bigV 128 (vN 32 s.data.toList (2 - 1)) → R = 0) := HK.out.big
              have HK2 : Hid (¬ bigV 128 (vN 32 s.data.toList (2 - 1)) → R = 2) := HK.out.ok (by rw [HL.out]; omega) HG.out
              generalize vN 32 s.data.toList (2 - 1) = V at HK1 HK2 hv ⊢
              clear HK HG HB
              by_cases hB : bigV 128 V
              · have HR : Hid (R = 0) := HK1.out hB
                by_cases b1 : V < 128
                · go_wp2
                  go_ret
                  exact ⟨by rw [HR.out]; rfl, by first | rfl | exact hw⟩
                · by_cases b2 : 1114111 < V
                  · go_wp2
                    go_ret
                    exact ⟨by rw [HR.out]; rfl, by first | rfl | exact hw⟩
                  · have b3 : 55296 ≤ V ∧ V < 57344 := by
                      rcases hB with h | h | h
                      · exact absurd h b1
                      · exact absurd h b2
                      · exact h
                    obtain ⟨b4, b5⟩ := b3
                    first
                    | (exfalso; omega)
                    | (go_wp2; go_ret; exact ⟨by rw [HR.out]; rfl, by first | rfl | exact hw⟩)
              · have HR : Hid (R = 2) := HK2.out hB
                have b1 : ¬ V < 128 := fun h => hB (.inl h)
                have b2 : ¬ 1114111 < V := fun h => hB (.inr (.inl h))
                rcases (show V < 55296 ∨ 57344 ≤ V by unfold bigV at hB; omega) with b3 | b3
                all_goals
                  first
                  | (exfalso; omega)
                  | (go_wp2; go_ret; exact ⟨by rw [HR.out]; rfl, by first | rfl | exact hw⟩)
      · have HK := Lib.hid (kd3 c1 c2)
        have e1 : decide ((bt s.data.toList 0 : Int) < 128) = false := decide_eq_false (by omega)
        have e2 : decide ((194 : Int) ≤ (bt s.data.toList 0 : Int)) = true := decide_eq_true (by omega)
        have e3 : decide ((bt s.data.toList 0 : Int) < 224) = false := by simp; omega
        have e4 : decide ((224 : Int) ≤ (bt s.data.toList 0 : Int)) = true := by simp; omega
        have e5 : decide ((bt s.data.toList 0 : Int) < 240) = true := by simp; omega
        have e6 : decide ((240 : Int) ≤ (bt s.data.toList 0 : Int)) = false := by simp; omega
        have e7 : decide ((bt s.data.toList 0 : Int) < 245) = true := by simp; omega
        by_cases hn : s.size < 3
        · have HR : Hid (firL s.data.toList = 0) := HK.out.short (by rw [HL.out]; exact hn)
          generalize firL s.data.toList = R at HR ⊢
          go_enter Tryd.func10, Tryd.ntmps10
          go_wp2
          go_ret
          exact ⟨by rw [HR.out]; rfl, rfl⟩
        · generalize firL s.data.toList = R at HK ⊢
          have e8 : decide ((s.size : Int) < 3) = false := by simp; omega
          go_enter Tryd.func10, Tryd.ntmps10
          go_wp2
          go_loopw [6, 7] (fun v i wr => ∃ k : Nat, k < 3 ∧ v = .int .i64 (vN 16 s.data.toList k : Nat) ∧ i = .int .i64 (k + 1 : Nat) ∧ Hid (∀ j, 1 ≤ j → j ≤ k → ¬ badB (bt s.data.toList j)) ∧ wr = w) (fun _ i _ => 3 - (intOf i).toNat)
          case atStart => exact ⟨0, by omega, rfl, rfl, (fun j h1 h2 => by omega), rfl⟩
          case round =>
            obtain ⟨k, hk, rfl, rfl, HB, hw⟩ := hrel
            have hv := vN_big (m := 16) s.data.toList (by decide) (by decide) (show k < 4 by omega)
            by_cases hk1 : k + 1 < 3
            · have hb := bt_of (show k + 1 < s.size by omega)
              have hb2 := bt_lt s.data.toList (k + 1)
              by_cases hbad : badB (bt s.data.toList (k + 1))
              · have HR : Hid (R = 0) := HK.out.bad (k + 1) (by omega) hk1 hbad
                rcases hbad with h | h
                all_goals
                  go_wp2
                  go_ret
                  exact ⟨by rw [HR.out]; rfl, by first | rfl | exact hw⟩
              · have hg1 : ¬ bt s.data.toList (k + 1) < 128 := fun h => hbad (.inl h)
                have hg2 : ¬ 191 < bt s.data.toList (k + 1) := fun h => hbad (.inr h)
                have hm : (bt s.data.toList (k + 1) : Int).tmod 64 = ((bt s.data.toList (k + 1) % 64 : Nat) : Int) := by rw [Int.tmod_eq_emod_of_nonneg (by omega)]; omega
                have HB2 : Hid (∀ j, 1 ≤ j → j ≤ k + 1 → ¬ badB (bt s.data.toList j)) := fun j h1 h2 => by
                  by_cases h : j = k + 1
                  · rw [h]; exact hbad
                  · exact HB.out j h1 (by omega)
                have HV : Hid (vN 16 s.data.toList (k + 1) = vN 16 s.data.toList k * 64 + bt s.data.toList (k + 1) % 64) := rfl
                clear hbad
                go_wp2
                go_roundw
                case rel => exact ⟨k + 1, hk1, by rw [HV.out]; go_num, by go_num, HB2, by first | trivial | exact hw⟩
                case measure => simp [intOf]; omega
            · obtain rfl : k = 3 - 1 := by omega
              have HG : Hid (∀ j, 1 ≤ j → j < 3 → ¬ badB (bt s.data.toList j)) := fun j h1 h2 => HB.out j h1 (by omega)
              have HK1 : Hid (bigV 2048 (vN 16 s.data.toList (3 - 1)) → R = 0) := HK.out.big
              have HK2 : Hid (¬ bigV 2048 (vN 16 s.data.toList (3 - 1)) → R = 3) := HK.out.ok (by rw [HL.out]; omega) HG.out
              generalize vN 16 s.data.toList (3 - 1) = V at HK1 HK2 hv ⊢
              clear HK HG HB
              by_cases hB : bigV 2048 V
              · have HR : Hid (R = 0) := HK1.out hB
                by_cases b1 : V < 2048
                · go_wp2
                  go_ret
                  exact ⟨by rw [HR.out]; rfl, by first | rfl | exact hw⟩
                · by_cases b2 : 1114111 < V
                  · go_wp2
                    go_ret
                    exact ⟨by rw [HR.out]; rfl, by first | rfl | exact hw⟩
                  · have b3 : 55296 ≤ V ∧ V < 57344 := by
                      rcases hB with h | h | h
                      · exact absurd h b1
                      · exact absurd h b2
                      · exact h
                    obtain ⟨b4, b5⟩ := b3
                    first
                    | (exfalso; omega)
                    | (go_wp2; go_ret; exact ⟨by rw [HR.out]; rfl, by first | rfl | exact hw⟩)
              · have HR : Hid (R = 3) := HK2.out hB
                have b1 : ¬ V < 2048 := fun h => hB (.inl h)
                have b2 : ¬ 1114111 < V := fun h => hB (.inr (.inl h))
                rcases (show V < 55296 ∨ 57344 ≤ V by unfold bigV at hB; omega) with b3 | b3
                all_goals
                  first
                  | (exfalso; omega)
                  | (go_wp2; go_ret; exact ⟨by rw [HR.out]; rfl, by first | rfl | exact hw⟩)
      · have HK := Lib.hid (kd4 c1 c2)
        have e1 : decide ((bt s.data.toList 0 : Int) < 128) = false := decide_eq_false (by omega)
        have e2 : decide ((194 : Int) ≤ (bt s.data.toList 0 : Int)) = true := decide_eq_true (by omega)
        have e3 : decide ((bt s.data.toList 0 : Int) < 224) = false := by simp; omega
        have e4 : decide ((224 : Int) ≤ (bt s.data.toList 0 : Int)) = true := by simp; omega
        have e5 : decide ((bt s.data.toList 0 : Int) < 240) = false := by simp; omega
        have e6 : decide ((240 : Int) ≤ (bt s.data.toList 0 : Int)) = true := by simp; omega
        have e7 : decide ((bt s.data.toList 0 : Int) < 245) = true := by simp; omega
        by_cases hn : s.size < 4
        · have HR : Hid (firL s.data.toList = 0) := HK.out.short (by rw [HL.out]; exact hn)
          generalize firL s.data.toList = R at HR ⊢
          go_enter Tryd.func10, Tryd.ntmps10
          go_wp2
          go_ret
          exact ⟨by rw [HR.out]; rfl, rfl⟩
        · generalize firL s.data.toList = R at HK ⊢
          have e8 : decide ((s.size : Int) < 4) = false := by simp; omega
          go_enter Tryd.func10, Tryd.ntmps10
          go_wp2
          go_loopw [6, 7] (fun v i wr => ∃ k : Nat, k < 4 ∧ v = .int .i64 (vN 8 s.data.toList k : Nat) ∧ i = .int .i64 (k + 1 : Nat) ∧ Hid (∀ j, 1 ≤ j → j ≤ k → ¬ badB (bt s.data.toList j)) ∧ wr = w) (fun _ i _ => 4 - (intOf i).toNat)
          case atStart => exact ⟨0, by omega, rfl, rfl, (fun j h1 h2 => by omega), rfl⟩
          case round =>
            obtain ⟨k, hk, rfl, rfl, HB, hw⟩ := hrel
            have hv := vN_big (m := 8) s.data.toList (by decide) (by decide) (show k < 4 by omega)
            by_cases hk1 : k + 1 < 4
            · have hb := bt_of (show k + 1 < s.size by omega)
              have hb2 := bt_lt s.data.toList (k + 1)
              by_cases hbad : badB (bt s.data.toList (k + 1))
              · have HR : Hid (R = 0) := HK.out.bad (k + 1) (by omega) hk1 hbad
                rcases hbad with h | h
                all_goals
                  go_wp2
                  go_ret
                  exact ⟨by rw [HR.out]; rfl, by first | rfl | exact hw⟩
              · have hg1 : ¬ bt s.data.toList (k + 1) < 128 := fun h => hbad (.inl h)
                have hg2 : ¬ 191 < bt s.data.toList (k + 1) := fun h => hbad (.inr h)
                have hm : (bt s.data.toList (k + 1) : Int).tmod 64 = ((bt s.data.toList (k + 1) % 64 : Nat) : Int) := by rw [Int.tmod_eq_emod_of_nonneg (by omega)]; omega
                have HB2 : Hid (∀ j, 1 ≤ j → j ≤ k + 1 → ¬ badB (bt s.data.toList j)) := fun j h1 h2 => by
                  by_cases h : j = k + 1
                  · rw [h]; exact hbad
                  · exact HB.out j h1 (by omega)
                have HV : Hid (vN 8 s.data.toList (k + 1) = vN 8 s.data.toList k * 64 + bt s.data.toList (k + 1) % 64) := rfl
                clear hbad
                go_wp2
                go_roundw
                case rel => exact ⟨k + 1, hk1, by rw [HV.out]; go_num, by go_num, HB2, by first | trivial | exact hw⟩
                case measure => simp [intOf]; omega
            · obtain rfl : k = 4 - 1 := by omega
              have HG : Hid (∀ j, 1 ≤ j → j < 4 → ¬ badB (bt s.data.toList j)) := fun j h1 h2 => HB.out j h1 (by omega)
              have HK1 : Hid (bigV 65536 (vN 8 s.data.toList (4 - 1)) → R = 0) := HK.out.big
              have HK2 : Hid (¬ bigV 65536 (vN 8 s.data.toList (4 - 1)) → R = 4) := HK.out.ok (by rw [HL.out]; omega) HG.out
              generalize vN 8 s.data.toList (4 - 1) = V at HK1 HK2 hv ⊢
              clear HK HG HB
              by_cases hB : bigV 65536 V
              · have HR : Hid (R = 0) := HK1.out hB
                by_cases b1 : V < 65536
                · go_wp2
                  go_ret
                  exact ⟨by rw [HR.out]; rfl, by first | rfl | exact hw⟩
                · by_cases b2 : 1114111 < V
                  · go_wp2
                    go_ret
                    exact ⟨by rw [HR.out]; rfl, by first | rfl | exact hw⟩
                  · have b3 : 55296 ≤ V ∧ V < 57344 := by
                      rcases hB with h | h | h
                      · exact absurd h b1
                      · exact absurd h b2
                      · exact h
                    obtain ⟨b4, b5⟩ := b3
                    first
                    | (exfalso; omega)
                    | (go_wp2; go_ret; exact ⟨by rw [HR.out]; rfl, by first | rfl | exact hw⟩)
              · have HR : Hid (R = 4) := HK2.out hB
                have b1 : ¬ V < 65536 := fun h => hB (.inl h)
                have b2 : ¬ 1114111 < V := fun h => hB (.inr (.inl h))
                rcases (show V < 55296 ∨ 57344 ≤ V by unfold bigV at hB; omega) with b3 | b3
                all_goals
                  first
                  | (exfalso; omega)
                  | (go_wp2; go_ret; exact ⟨by rw [HR.out]; rfl, by first | rfl | exact hw⟩)
    · have HR : Hid (firL s.data.toList = 0) := by
        show _ = _
        unfold firL firN
        rw [if_neg hA, if_neg (by omega), if_neg (by omega), if_neg (by omega)]
      generalize firL s.data.toList = R at HR ⊢
      rcases (show bt s.data.toList 0 < 194 ∨ 245 ≤ bt s.data.toList 0 by omega) with c | c
      all_goals
        go_enter Tryd.func10, Tryd.ntmps10
        go_wp2
        go_ret
        exact ⟨by rw [HR.out]; rfl, rfl⟩
end Go.Proofs.YtmikpogmklindaaDoor
