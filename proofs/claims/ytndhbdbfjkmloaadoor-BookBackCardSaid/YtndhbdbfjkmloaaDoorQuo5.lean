/- What quote.Unlit answers where it can't be read. -/
import Derived.Test.YtndhbdbfjkmloaaDoorQuo4
namespace Go.Proofs.YtndhbdbfjkmloaaDoor
open Go.RowKit

set_option maxRecDepth 100000 in
set_option maxHeartbeats 4000000 in
theorem unlit_no (s : ByteArray) (w : World) (hs : s.size ≤ 4611686018427387904) (h0 : 0 < s.size) (q : Nat) (hq : bt s.data.toList 0 = q) (hq2 : q = 39 ∨ q = 34) (hs2 : s.size ≤ 100000)
    (ho : unl q sgU.data.toList s.size (s.data.toList.drop 1) = none) :
    Calls Tryd.prog 77 #[.string s] w fun e w' => e = .returned (.tuple #[.string ⟨#[]⟩, .int .i64 0, .int .i64 4]) ∧ Below w.heap.size w w' := by
  have HL := Lib.hid (size_list s)
  have hb0 := bt_of h0
  rw [hq] at hb0
  have HQ := Lib.hid hq
  have HO := Lib.hid ho
  clear hq ho
  have hne : (s.toList.isEmpty) = false := by
    rw [ByteArray.toList_eq]
    cases h : s.data.toList with
    | nil => have := HL.out; rw [h] at this; simp at this; omega
    | cons => rfl
  obtain ⟨i0, hi0, hz0, hz1, hz2⟩ := info_parts u8_info'
  have hqb : q < 256 := by omega
  have h39 : ((q : Int) != 39) = true ∧ ((q : Int) != 34) = false ∨ ((q : Int) != 39) = false := by
    rcases hq2 with rfl | rfl
    · right; decide
    · left; decide
  clear hq2
  rcases h39 with ⟨b1, b2⟩ | b1
  all_goals
    go_enter Tryd.func77, Tryd.ntmps77
    go_wp2_with fail
    go_loopw [5, 6, 7, 8] (fun v i _ _ wr => ∃ (k m f : Nat) (acc : List UInt8) (V : Option Addr) (cp : Nat), 1 ≤ k ∧ k ≤ s.size ∧ s.size - k < f ∧ i = .int .i64 k ∧ v = .slice V m cp ∧ wr.ownsRow w.heap.size 5 1 (.slice V m cp) m (u8s acc) ∧
      m < k ∧ unl q sgU.data.toList f (s.data.toList.drop k) = none ∧ Below w.heap.size w wr) (fun _ i _ _ _ => s.size - (intOf i).toNat)
    case atStart => exact ⟨1, 0, s.size, [], none, 0, by omega, by omega, by omega, rfl, rfl, ⟨rfl, .inl ⟨rfl, rfl⟩⟩, by omega, HO.out, Below.refl _ _⟩
    case round =>
      obtain ⟨k, m, f, acc, V, cp, hk1, hk, hf, rfl, rfl, hown, hmk, hun, hbw⟩ := hrel
      have hmacc : acc.length = m := by have := hown.1; rw [u8s_length] at this; omega
      have hsz := hbw.size
      obtain ⟨f', rfl⟩ : ∃ f', f = f' + 1 := ⟨f - 1, by omega⟩
      by_cases hkn : k < s.size
      · have hne' : s.data.toList.drop k ≠ [] := by
          intro h
          have := congrArg List.length h
          rw [List.length_drop, HL.out, List.length_nil] at this
          omega
        rw [unl_step _ _ _ hne', bt_drop] at hun
        have hbk := bt_of hkn
        have hk0 : (0 : Int) ≤ (k : Int) := by omega
        have hk1 : (k : Int) < (s.size : Int) := by omega
        by_cases hbq : bt s.data.toList k = q
        · rw [if_pos hbq] at hun
          cases hun
        · rw [if_neg hbq] at hun
          generalize hnn : nextN sgU.data.toList (s.data.toList.drop k) = nx at hun
          obtain ⟨b, n⟩ := nx
          have hnb := nextN_bd sgU.data.toList _ hne'
          rw [hnn] at hnb
          simp only at hnb hun
          obtain ⟨hn1, hn2, hn3⟩ := hnb
          rw [List.length_drop, HL.out] at hn1
          have HNN := Lib.hid hnn
          have hbne : (((bt s.data.toList k : Nat) : Int) == (q : Int)) = false := by rw [beq_eq_false_iff_ne]; omega
          by_cases hn0 : n = 0
          · subst hn0
            clear hun hnn hne' hbq
            go_wp2
            go_quiet (fail)
            go_wp2_with fail
            refine (nextq_any (s.extract k s.size) ⟨#[39, 34, 92]⟩ _ ?_).mono ?_
            · have := size_list (s.extract k s.size); rw [Lib.extract_to_end, List.length_drop, HL.out] at this; omega
            rw [Lib.extract_to_end]
            unfold NextQ
            rw [show (⟨#[39, 34, 92]⟩ : ByteArray).data.toList = sgU.data.toList from rfl, HNN.out]
            rintro e w2 ⟨rfl, d, rfl⟩
            go_wp2
            go_ret3
            exact ⟨rfl, below_drewN hbw _⟩
          · rw [if_neg hn0, List.drop_drop] at hun
            have hun2 := Option.map_eq_none_iff.1 hun
            have HREL := Lib.hid hun2
            have hbn : ((b : Int)) = ((UInt8.ofNat b).toNat : Int) := by simp; omega
            have HBN := Lib.hid hbn
            have hn00 : ((n : Int) == 0) = false := by rw [beq_eq_false_iff_ne]; omega
            have hlen : m + 1 ≤ 140737488351232 := by omega
            clear hun hun2 hnn hbn hne' hbq
            go_wp2
            go_quiet (fail)
            go_wp2_with fail
            refine (nextq_any (s.extract k s.size) ⟨#[39, 34, 92]⟩ _ ?_).mono ?_
            · have := size_list (s.extract k s.size); rw [Lib.extract_to_end, List.length_drop, HL.out] at this; omega
            rw [Lib.extract_to_end]
            unfold NextQ
            rw [show (⟨#[39, 34, 92]⟩ : ByteArray).data.toList = sgU.data.toList from rfl, HNN.out]
            rintro e w2 ⟨rfl, d, rfl⟩
            rw [HBN.out]
            generalize UInt8.ofNat b = B at *
            go_wp2_with (at_builtin; refine wpList_append_lies _ rfl _ _ _ rfl w.heap.size 5 i0 _ 1 1 Tryd.underlying158 hi0 hz0 hz1 hz2 rfl (by omega) (.slice V m cp) m _ rfl (hown.alloc _) ⟨wr.heap.size, 0, none⟩ 1 1 [.int .u8 B.toNat] rfl rfl (World.news_of_block (cs := #[.int .u8 B.toNat]) (t := 5) (fr := (0, 0)) (heap_alloc_new wr _)) (by simp [Value.oneCell']) (by omega) (by unfold maxLen; omega) (by omega) (by simp; omega) (wr.heap.size + 1) (by simp) ?_; intro gg cap w1 hown1 hgrow hat hlt)
            go_roundw
            case rel => exact ⟨k + n, m + 1, f', acc ++ [B], _, cap, by omega, by omega, by omega, by go_num, rfl, by rw [u8s_append]; exact hown1, by omega, HREL.out, below_app (below_drewN (hbw.alloc hsz _) _) (hown.alloc _) hgrow (by simp; omega) (Nat.le_refl _)⟩
            case measure => simp [intOf]; omega
      · obtain rfl : k = s.size := by omega
        clear hun
        go_wp2
        go_ret3
        exact ⟨rfl, hbw⟩
end Go.Proofs.YtndhbdbfjkmloaaDoor
