/- place.Back's walk. -/
import Derived.Test.YtmikpogmklindaaDoorPcB
namespace Go.Proofs.YtmikpogmklindaaDoor
open Go.RowKit

theorem St.next {l : List UInt8} {p q k : Nat} (h : St l p q k) (hk : 0 < k) : p < l.length ∧ St l (p + wd (l.drop p)) q (k - 1) := by
  cases h with
  | nil => omega
  | cons _ _ k hp h => exact ⟨hp, h⟩
set_option maxRecDepth 100000 in
set_option maxHeartbeats 8000000 in
theorem back_any (s : ByteArray) (hs : s.size ≤ 1048576) (a f : Nat) (ha : a ≤ s.size) (F : IsFrm s.data.toList a f) (hb : ∃ k, St s.data.toList 0 a k) (w : World) (hT : Lib.Utf8Tabs 1 2 w) :
    Calls Tryd.prog 7 #[.string s, .agg #[.int .i64 (liN s.data.toList f : Nat), .int .i64 (coN s.data.toList f a : Nat)]] w fun e w' => e = .returned (.tuple #[.int .i64 (a : Int), .int .i64 0]) ∧ Below w.heap.size w w' := by
  have HL := Lib.hid (size_list s)
  have hfa := F.le
  have HF := Lib.hid F
  obtain ⟨k1, hk1⟩ := frm_bd F (by rw [size_list]; exact ha)
  obtain ⟨k2, hk2⟩ := hb
  obtain ⟨k, hk⟩ := hk1.part hk2 hfa
  have hco : coN s.data.toList f a = 1 + k := by unfold coN; rw [hk.cntS (by rw [size_list]; omega)]
  have hkl := hk.le.1
  have HK := Lib.hid hk
  obtain ⟨c, hc⟩ : ∃ c, c = (s.data.toList.take f).count 10 := ⟨_, rfl⟩
  have hcl : c ≤ 1048576 := by
    have h1 := List.count_le_length (a := (10 : UInt8)) (l := s.data.toList.take f)
    rw [List.length_take] at h1
    omega
  have hli : liN s.data.toList f = 1 + c := by unfold liN; rw [hc]
  rw [hli, hco]
  have HC := Lib.hid hc
  have HT := Lib.hid hT
  clear hli hco hc hk hk1 hk2 F hT
  rw [show ((1 + c : Nat) : Int) = 1 + (c : Int) by omega, show ((1 + k : Nat) : Int) = 1 + (k : Int) by omega]
  go_enter Tryd.func7, Tryd.ntmps7
  have hb1 : Blk (w.alloc (Obj.cells #[Value.int IntKind.i64 (1 + (c : Int)), Value.int IntKind.i64 (1 + (k : Int))] 23)) w.heap.size 23 #[.int .i64 (1 + (c : Int)), .int .i64 (1 + (k : Int))] := blk_at rfl
  have b0 := hb1.cell 0
  have b1 := hb1.cell 1
  have hbw : Below w.heap.size w (w.alloc (Obj.cells #[Value.int IntKind.i64 (1 + (c : Int)), Value.int IntKind.i64 (1 + (k : Int))] 23)) := (Below.refl _ _).alloc (Nat.le_refl _) _
  go_wp2
  go_loopw [6, 7] (fun va vn wr => ∃ A N : Nat, va = .int .i64 A ∧ vn = .int .i64 (1 + (N : Int)) ∧ A ≤ f ∧ N ≤ c ∧ Hid (AtL s.data.toList f A N) ∧ wr = w.alloc (Obj.cells #[Value.int IntKind.i64 (1 + (c : Int)), Value.int IntKind.i64 (1 + (k : Int))] 23)) (fun _ vn _ => (2 + c) - (intOf vn).toNat)
  case atStart => exact ⟨0, 0, rfl, rfl, by omega, by omega, AtL.zero _ _, rfl⟩
  case round =>
    obtain ⟨A, N, rfl, rfl, hAf, hN, HA, rfl⟩ := hrel
    by_cases hNc : N < c
    · obtain ⟨i, hi, hif, hA2⟩ := HA.out.more (by rw [HL.out]; omega) (by rw [← HC.out]; exact hNc)
      have HA2 := Lib.hid hA2
      have hfs := fun W => from_slice s A (by omega) W
      have hix := fun W => indexByte_any (s.extract A s.size) 10 W
      rw [from_list, show (10 : Int).toNat.toUInt8 = 10 from rfl, hi] at hix
      have HIX := Lib.hid hix
      have hi0 : ¬ (i : Int) < 0 := by omega
      have hn1 : 1 + (N : Int) < 1 + (c : Int) := by omega
      clear hix hA2 hi
      go_wp2_with fail
      refine (HIX.out _).mono ?_
      rintro e w5 ⟨rfl, hw⟩
      subst hw
      go_wp2
      go_roundw
      case rel => exact ⟨A + i + 1, N + 1, by go_num, by go_num, by omega, by omega, HA2, by first | trivial | rfl⟩
      case measure => simp [intOf]; omega
    · obtain rfl : N = c := by omega
      obtain rfl := HA.out.done HF.out HC.out
      have hfs := fun W => from_slice s A (by omega) W
      have hnn : ¬ 1 + (N : Int) < 1 + (N : Int) := by omega
      have hix := fun W => indexByte_any (s.extract A s.size) 10 W
      rw [from_list, show (10 : Int).toNat.toUInt8 = 10 from rfl] at hix
      have e1 : decide (1 + (N : Int) < 1) = false := decide_eq_false (by omega)
      have e2 : decide (1 + (k : Int) < 1) = false := decide_eq_false (by omega)
      have hk8 : k ≤ 1048576 := by omega
      rcases line_end HF.out (by rw [HL.out]; exact ha) with hi | ⟨i, hi, hae, hel⟩
      · rw [hi] at hix
        have HIX := Lib.hid hix
        have HT0 : Hid ((s.extract A s.size).data.toList = (s.data.toList.drop A).take (s.size - A)) := by
          show _ = _
          rw [ext_list]
        have hae : a ≤ s.size := ha
        have hel : s.size ≤ s.size := Nat.le_refl _
        clear hix hi
        go_wp2_with fail
        refine (HIX.out _).mono ?_
        rintro e w5 ⟨rfl, hw⟩
        subst hw
        generalize s.extract A s.size = t0 at hfs HT0 HIX ⊢
        obtain ⟨E, hE⟩ : ∃ E, E = s.size := ⟨_, rfl⟩
        have hel2 : E ≤ s.size := by rw [hE]; exact hel
        have hae2 : a ≤ E := by rw [hE]; exact hae
        rw [← hE] at HT0
        have hbz := hbw.size
        have HK1 : Hid (St s.data.toList A a (k - 0)) := HK
        have HB := Lib.hid hbw
        have hzz : (w.alloc (Obj.cells #[Value.int IntKind.i64 (1 + (N : Int)), Value.int IntKind.i64 (1 + (k : Int))] 23)).heap.size = w.heap.size + 1 := by simp
        clear HIX
        go_wp2
        go_loopw [6, 9, 11] (fun va vl vn wr => ∃ (p j : Nat) (t' : ByteArray), va = .int .i64 p ∧ vl = .string t' ∧ vn = .int .i64 (1 + (j : Int)) ∧ p ≤ a ∧ j ≤ k ∧ t'.size = E - p ∧ Hid (t'.data.toList = (s.data.toList.drop p).take (E - p)) ∧ Hid (St s.data.toList p a (k - j)) ∧ Below (w.heap.size + 1) (w.alloc (Obj.cells #[Value.int IntKind.i64 (1 + (N : Int)), Value.int IntKind.i64 (1 + (k : Int))] 23)) wr) (fun _ _ vn _ => (2 + k) - (intOf vn).toNat)
        case atStart => exact ⟨A, 0, t0, rfl, rfl, rfl, by omega, by omega, by rw [← size_list, HT0.out, List.length_take, List.length_drop, HL.out]; omega, HT0, HK1, Below.refl _ _⟩
        case round => 
          obtain ⟨p, j, t', rfl, rfl, rfl, hpa, hjk, hts, HTL, HS, hbr⟩ := hrel
          have hbr1 := hb1.below hbr (by omega)
          have c0 := hbr1.cell 0
          have c1 := hbr1.cell 1
          have hrz := hbr.size
          rw [hzz] at hrz
          by_cases hlt : j < k
          · obtain ⟨hpl, hs2⟩ := HS.out.next (by omega)
            have hle2 := hs2.le.1
            have HS2 : Hid (St s.data.toList (p + wd (s.data.toList.drop p)) a (k - (j + 1))) := by
              show St _ _ _ _
              rw [show k - (j + 1) = k - j - 1 by omega]
              exact hs2
            rw [HL.out] at hpl
            have hwp := wd_pos (s.data.toList.drop p)
            have hTr := Utf8Tabs_below HT.out (HB.out.trans (hbr.mono (by omega)))
            have hru := fun (W : World) (hW : Below wr.heap.size wr W) => rune_any t' (by omega) W (Utf8Tabs_below hTr hW)
            rw [HTL.out, wd_line (by omega) (by rw [HL.out]; exact hel2)] at hru
            generalize wd (s.data.toList.drop p) = d at hru HS2 hle2 hwp
            have HRU := Lib.hid (hru wr (Below.refl _ _))
            have hfd := fun W => from_slice t' d (by omega) W
            have hfz := from_size t' d
            have HFL : Hid ((t'.extract d t'.size).data.toList = (s.data.toList.drop (p + d)).take (E - (p + d))) := by
              show _ = _
              rw [from_list, HTL.out, List.drop_take, List.drop_drop, show E - p - d = E - (p + d) by omega]
            generalize t'.extract d t'.size = t2 at hfd hfz HFL
            have hne : t'.toList.isEmpty = false := by
              rw [ByteArray.toList_eq]
              have hl := size_list t'
              cases h : t'.data.toList with
              | nil =>
                rw [h] at hl
                simp at hl
                omega
              | cons _ _ => rfl
            have hn1 : 1 + (j : Int) < 1 + (k : Int) := by omega
            clear hru hTr hs2
            go_wp2_with fail
            refine HRU.out.mono ?_
            rintro e w6 ⟨⟨r, rfl⟩, hb6⟩
            have hbr6 := hbr.trans (hb6.mono (by omega))
            go_wp2
            go_roundw
            case rel => exact ⟨p + d, j + 1, t2, by go_num, rfl, by go_num, by omega, by omega, by omega, HFL, HS2, hbr6⟩
            case measure => simp [intOf]; omega
          · obtain rfl : j = k := by omega
            have hpe : p = a := by
              have := HS.out
              rw [Nat.sub_self] at this
              cases this
              rfl
            subst hpe
            go_wp2
            go_ret2
            exact ⟨rfl, HB.out.trans (hbr.mono (by omega))⟩
      · rw [hi] at hix
        have HIX := Lib.hid hix
        have hi0 : (0 : Int) ≤ (i : Int) := by omega
        have hes := from_size s A
        rw [HL.out] at hel
        have hus := fun W => upto_slice (s.extract A s.size) i (by rw [hes]; omega) W
        have HT0 : Hid (((s.extract A s.size).extract 0 i).data.toList = (s.data.toList.drop A).take (A + i - A)) := by
          show _ = _
          rw [ext_list, from_list, List.drop_zero, Nat.sub_zero, Nat.add_sub_cancel_left]
        clear hix hi hes
        go_wp2_with fail
        refine (HIX.out _).mono ?_
        rintro e w5 ⟨rfl, hw⟩
        subst hw
        generalize (s.extract A s.size).extract 0 i = t0 at hus HT0 ⊢
        obtain ⟨E, hE⟩ : ∃ E, E = A + i := ⟨_, rfl⟩
        have hel2 : E ≤ s.size := by rw [hE]; exact hel
        have hae2 : a ≤ E := by rw [hE]; exact hae
        rw [← hE] at HT0
        have hbz := hbw.size
        have HK1 : Hid (St s.data.toList A a (k - 0)) := HK
        have HB := Lib.hid hbw
        have hzz : (w.alloc (Obj.cells #[Value.int IntKind.i64 (1 + (N : Int)), Value.int IntKind.i64 (1 + (k : Int))] 23)).heap.size = w.heap.size + 1 := by simp
        clear HIX
        go_wp2
        go_loopw [6, 9, 11] (fun va vl vn wr => ∃ (p j : Nat) (t' : ByteArray), va = .int .i64 p ∧ vl = .string t' ∧ vn = .int .i64 (1 + (j : Int)) ∧ p ≤ a ∧ j ≤ k ∧ t'.size = E - p ∧ Hid (t'.data.toList = (s.data.toList.drop p).take (E - p)) ∧ Hid (St s.data.toList p a (k - j)) ∧ Below (w.heap.size + 1) (w.alloc (Obj.cells #[Value.int IntKind.i64 (1 + (N : Int)), Value.int IntKind.i64 (1 + (k : Int))] 23)) wr) (fun _ _ vn _ => (2 + k) - (intOf vn).toNat)
        case atStart => exact ⟨A, 0, t0, rfl, rfl, rfl, by omega, by omega, by rw [← size_list, HT0.out, List.length_take, List.length_drop, HL.out]; omega, HT0, HK1, Below.refl _ _⟩
        case round => 
          obtain ⟨p, j, t', rfl, rfl, rfl, hpa, hjk, hts, HTL, HS, hbr⟩ := hrel
          have hbr1 := hb1.below hbr (by omega)
          have c0 := hbr1.cell 0
          have c1 := hbr1.cell 1
          have hrz := hbr.size
          rw [hzz] at hrz
          by_cases hlt : j < k
          · obtain ⟨hpl, hs2⟩ := HS.out.next (by omega)
            have hle2 := hs2.le.1
            have HS2 : Hid (St s.data.toList (p + wd (s.data.toList.drop p)) a (k - (j + 1))) := by
              show St _ _ _ _
              rw [show k - (j + 1) = k - j - 1 by omega]
              exact hs2
            rw [HL.out] at hpl
            have hwp := wd_pos (s.data.toList.drop p)
            have hTr := Utf8Tabs_below HT.out (HB.out.trans (hbr.mono (by omega)))
            have hru := fun (W : World) (hW : Below wr.heap.size wr W) => rune_any t' (by omega) W (Utf8Tabs_below hTr hW)
            rw [HTL.out, wd_line (by omega) (by rw [HL.out]; exact hel2)] at hru
            generalize wd (s.data.toList.drop p) = d at hru HS2 hle2 hwp
            have HRU := Lib.hid (hru wr (Below.refl _ _))
            have hfd := fun W => from_slice t' d (by omega) W
            have hfz := from_size t' d
            have HFL : Hid ((t'.extract d t'.size).data.toList = (s.data.toList.drop (p + d)).take (E - (p + d))) := by
              show _ = _
              rw [from_list, HTL.out, List.drop_take, List.drop_drop, show E - p - d = E - (p + d) by omega]
            generalize t'.extract d t'.size = t2 at hfd hfz HFL
            have hne : t'.toList.isEmpty = false := by
              rw [ByteArray.toList_eq]
              have hl := size_list t'
              cases h : t'.data.toList with
              | nil =>
                rw [h] at hl
                simp at hl
                omega
              | cons _ _ => rfl
            have hn1 : 1 + (j : Int) < 1 + (k : Int) := by omega
            clear hru hTr hs2
            go_wp2_with fail
            refine HRU.out.mono ?_
            rintro e w6 ⟨⟨r, rfl⟩, hb6⟩
            have hbr6 := hbr.trans (hb6.mono (by omega))
            go_wp2
            go_roundw
            case rel => exact ⟨p + d, j + 1, t2, by go_num, rfl, by go_num, by omega, by omega, by omega, HFL, HS2, hbr6⟩
            case measure => simp [intOf]; omega
          · obtain rfl : j = k := by omega
            have hpe : p = a := by
              have := HS.out
              rw [Nat.sub_self] at this
              cases this
              rfl
            subst hpe
            go_wp2
            go_ret2
            exact ⟨rfl, HB.out.trans (hbr.mono (by omega))⟩
end Go.Proofs.YtmikpogmklindaaDoor
