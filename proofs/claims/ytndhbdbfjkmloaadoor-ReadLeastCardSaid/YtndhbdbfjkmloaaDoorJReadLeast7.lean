/- The reader's small steps: letter, bad, skip. What quote.Unlit answers where it can't be read. -/
import Derived.Test.YtndhbdbfjkmloaaDoorJReadLeast3
import Derived.Test.YtndhbdbfjkmloaaDoorJReadLeast6
import Derived.WalkLawsBesides
import Derived.Test.YtndhbdbfjkmloaaDoorJReadLeast1
namespace Go.Proofs.YtndhbdbfjkmloaaDoor
open Go.RowKit

set_option maxRecDepth 100000 in
theorem letter_any (c : Nat) (hc : c < 256) (w : World) : Calls Tryd.prog 117 #[.int .u8 (c : Int)] w fun e w' => e = .returned (.bool (isLD c)) ∧ w' = w := by
  have h32 := or32 c hc
  have hr : Hid (isLD c = ((decide ((97 : Int) ≤ ((c ||| 32 : Nat) : Int)) && decide (((c ||| 32 : Nat) : Int) ≤ 122)) || (decide ((48 : Int) ≤ (c : Int)) && decide ((c : Int) ≤ 57)))) := by
    show _ = _
    unfold isLD isLet isDig
    rw [Bool.eq_iff_iff]
    simp only [Bool.or_eq_true, Bool.and_eq_true, decide_eq_true_iff]
    omega
  generalize isLD c = r at hr ⊢
  generalize ((c ||| 32 : Nat) : Int) = x at hr h32
  obtain ⟨q1, e1⟩ : ∃ q, decide ((97 : Int) ≤ x) = q := ⟨_, rfl⟩
  obtain ⟨q2, e2⟩ : ∃ q, decide (x ≤ (122 : Int)) = q := ⟨_, rfl⟩
  obtain ⟨q3, e3⟩ : ∃ q, decide ((48 : Int) ≤ (c : Int)) = q := ⟨_, rfl⟩
  obtain ⟨q4, e4⟩ : ∃ q, decide ((c : Int) ≤ (57 : Int)) = q := ⟨_, rfl⟩
  rw [e1, e2, e3, e4] at hr
  cases q1 <;> cases q2 <;> cases q3 <;> cases q4
  all_goals
    go_enter Tryd.func117, Tryd.ntmps117
    go_wp2
    go_ret
    exact ⟨ret_bool (by rw [hr.out]; rfl), rfl⟩
/-- what a fault says -/
def faultV (i : Nat) : Value := .iface 168 (.agg #[.int .i64 (i : Int)])
set_option maxRecDepth 100000 in
theorem bad_any (i : Nat) (w : World) : Calls Tryd.prog 95 #[.int .i64 (i : Int)] w fun e w' => e = .panicked [{ v := faultV i, recovered := false }] ∧ w' = w := by
  go_enter Tryd.func95, Tryd.ntmps95
  go_wp2
  exact ⟨rfl, rfl, rfl⟩
/-! skip -/
theorem u8_ne {d : UInt8} (k : UInt8) {n : Int} (h : d ≠ k) (hk : (k.toNat : Int) = n) : ((d.toNat : Int) == n) = false := by
  rw [beq_eq_false_iff_ne, ← hk]
  exact fun e => h (UInt8.toNat_inj.1 (by omega))
theorem u8_bne {d : UInt8} (k : UInt8) {n : Int} (h : d ≠ k) (hk : (k.toNat : Int) = n) : ((d.toNat : Int) != n) = true := by
  rw [bne_iff_ne, ← hk]
  exact fun e => h (UInt8.toNat_inj.1 (by omega))
theorem drop_at {l : List UInt8} {j : Nat} (h : j < l.length) : ∃ c, l[j]? = some c ∧ l.drop j = c :: l.drop (j + 1) := by
  refine ⟨l[j], List.getElem?_eq_getElem h, ?_⟩
  exact List.drop_eq_getElem_cons h
theorem skip_drop : ∀ (b : Bool) (l : List UInt8), ∃ k, k ≤ l.length ∧ skipL b l = l.drop k
  | _, [] => ⟨0, by simp, by simp [skipL]⟩
  | false, c :: l => by
    rw [skipL]
    split
    · obtain ⟨k, h1, h2⟩ := skip_drop false l
      exact ⟨k + 1, by simp; omega, by rw [h2]; rfl⟩
    · split
      · obtain ⟨k, h1, h2⟩ := skip_drop true l
        exact ⟨k + 1, by simp; omega, by rw [h2]; rfl⟩
      · exact ⟨0, by simp, rfl⟩
  | true, c :: l => by
    rw [skipL]
    split
    · obtain ⟨k, h1, h2⟩ := skip_drop false l
      exact ⟨k + 1, by simp; omega, by rw [h2]; rfl⟩
    · obtain ⟨k, h1, h2⟩ := skip_drop true l
      exact ⟨k + 1, by simp; omega, by rw [h2]; rfl⟩
/-- where one is when so much is left -/
def posL (s : ByteArray) (l : List UInt8) : Nat := s.size - l.length
theorem posL_drop {s : ByteArray} {j : Nat} (h : j ≤ s.size) : posL s (s.data.toList.drop j) = j := by
  unfold posL
  rw [List.length_drop, size_list]
  omega
set_option maxRecDepth 100000 in
set_option maxHeartbeats 4000000 in
theorem skip_any (s : ByteArray) (hs : s.size ≤ 4611686018427387904) (rb i0 : Nat) (hi0 : i0 ≤ s.size) (w : World) (hc : w.cell? ⟨rb, 0, none⟩ = some (.string s)) :
    Calls Tryd.prog 94 #[.pointer (some ⟨rb, 0, none⟩), .int .i64 (i0 : Int)] w fun e w' => e = .returned (.int .i64 (posL s (skipL false (s.data.toList.drop i0)) : Nat)) ∧ w' = w := by
  have HL := Lib.hid (size_list s)
  generalize hR : skipL false (s.data.toList.drop i0) = R
  have HR := Lib.hid hR
  clear hR
  go_enter Tryd.func94, Tryd.ntmps94
  go_wp2
  go_loopw [1] (fun i wr => ∃ j : Nat, j ≤ s.size ∧ i = .int .i64 j ∧ Hid (skipL false (s.data.toList.drop j) = R) ∧ wr = w) (fun i _ => s.size - (intOf i).toNat)
  case atStart => exact ⟨i0, hi0, rfl, HR, rfl⟩
  case round =>
    obtain ⟨j, hj, rfl, HJ, hw⟩ := hrel
    subst hw
    by_cases hjn : j < s.size
    · obtain ⟨c, hcj, hdj⟩ := drop_at (l := s.data.toList) (j := j) (by rw [HL.out]; exact hjn)
      have hb := bt_of hjn
      have hbt : bt s.data.toList j = c.toNat := by unfold bt; rw [List.getD_eq_getElem?_getD, hcj]; rfl
      rw [hbt] at hb
      have HD := Lib.hid hdj
      have HCJ := Lib.hid hcj
      clear hdj hcj hbt
      by_cases hbl : c = 32 ∨ c = 9 ∨ c = 10 ∨ c = 13
      · have HJ2 : Hid (skipL false (s.data.toList.drop (j + 1)) = R) := by
          show _ = _
          rw [← HJ.out, HD.out, skipL, if_pos hbl]
        rcases hbl with rfl | rfl | rfl | rfl
        all_goals
          go_wp2
          go_roundw
          case rel => exact ⟨j + 1, by omega, by go_num, HJ2, by first | trivial | rfl⟩
          case measure => simp [intOf]; omega
      · by_cases h35 : c = 35
        · have HJ2 : Hid (skipL true (s.data.toList.drop (j + 1)) = R) := by
            show _ = _
            rw [← HJ.out, HD.out, skipL, if_neg hbl, if_pos h35]
          subst h35
          have HJ3 : Hid (skipL true (s.data.toList.drop j) = R) := by
            show _ = _
            rw [HD.out, skipL, if_neg (by decide), HJ2.out]
          clear HJ HJ2
          go_wp2
          rename World => ws
          go_loopw [1] (fun i wi => ∃ m : Nat, j ≤ m ∧ m ≤ s.size ∧ i = .int .i64 m ∧ Hid (skipL true (s.data.toList.drop m) = R) ∧ wi = ws) (fun i _ => s.size - (intOf i).toNat)
          case atStart => exact ⟨j, Nat.le_refl _, by omega, rfl, HJ3, rfl⟩
          case round =>
            obtain ⟨m, hjm, hm, rfl, HM, hw2⟩ := hrel
            subst hw2
            by_cases hmn : m < s.size
            · obtain ⟨d, hdm, hdd⟩ := drop_at (l := s.data.toList) (j := m) (by rw [HL.out]; exact hmn)
              have hbm := bt_of hmn
              have hbt : bt s.data.toList m = d.toNat := by unfold bt; rw [List.getD_eq_getElem?_getD, hdm]; rfl
              rw [hbt] at hbm
              have HDM := Lib.hid hdm
              have HDD := Lib.hid hdd
              clear hdm hdd hbt
              by_cases h10 : d = 10
              · have hmj : j < m := by
                  refine Nat.lt_of_le_of_ne hjm fun e => ?_
                  have h1 := HCJ.out
                  rw [e, HDM.out, h10] at h1
                  exact absurd (Option.some.inj h1) (by decide)
                have HM2 : Hid (skipL false (s.data.toList.drop m) = R) := by
                  show _ = _
                  rw [← HM.out, HDD.out, h10, skipL, if_pos (by decide), skipL, if_pos rfl]
                subst h10
                go_wp2
                go_roundw
                case rel => exact ⟨m, by omega, rfl, HM2, by first | trivial | rfl⟩
                case measure => simp [intOf]; omega
              · have HM2 : Hid (skipL true (s.data.toList.drop (m + 1)) = R) := by
                  show _ = _
                  rw [← HM.out, HDD.out]
                  conv => rhs; rw [skipL, if_neg h10]
                have hc8 := d.toNat_lt
                have n3 : ((d.toNat : Int) != 10) = true := u8_bne 10 h10 rfl
                generalize d.toNat = dn at hbm n3
                go_wp2
                go_roundw
                case rel => exact ⟨m + 1, by omega, by omega, by go_num, HM2, by first | trivial | rfl⟩
                case measure => simp [intOf]; omega
            · obtain rfl : m = s.size := by omega
              have HM2 : Hid (skipL false (s.data.toList.drop s.size) = R) := by
                show _ = _
                rw [← HM.out, List.drop_of_length_le (Nat.le_of_eq HL.out)]
                rfl
              go_wp2
              go_roundw
              case rel => exact ⟨s.size, by omega, rfl, HM2, by first | trivial | rfl⟩
              case measure => simp [intOf]; omega
        · have HJ2 : Hid (R = s.data.toList.drop j) := by
            show _ = _
            rw [← HJ.out, HD.out, skipL, if_neg hbl, if_neg h35]
          have hp : posL s R = j := by rw [HJ2.out, posL_drop hj]
          have hc8 := c.toNat_lt
          have n1 : ((c.toNat : Int) == 32) = false := u8_ne 32 (fun e => hbl (.inl e)) rfl
          have n2 : ((c.toNat : Int) == 9) = false := u8_ne 9 (fun e => hbl (.inr (.inl e))) rfl
          have n3 : ((c.toNat : Int) == 10) = false := u8_ne 10 (fun e => hbl (.inr (.inr (.inl e)))) rfl
          have n4 : ((c.toNat : Int) == 13) = false := u8_ne 13 (fun e => hbl (.inr (.inr (.inr e)))) rfl
          have n5 : ((c.toNat : Int) == 35) = false := u8_ne 35 (h35) rfl
          generalize c.toNat = cn at hb n1 n2 n3 n4 n5
          go_wp2
          go_ret
          exact ⟨by rw [hp]; rfl, rfl⟩
    · obtain rfl : j = s.size := by omega
      have hp : posL s R = s.size := by
        rw [← HJ.out, List.drop_of_length_le (Nat.le_of_eq HL.out)]
        rfl
      go_wp2
      go_ret
      exact ⟨by rw [hp]; rfl, rfl⟩
end Go.Proofs.YtndhbdbfjkmloaaDoor
namespace Go.Proofs.YtndhbdbfjkmloaaDoor
open Go.RowKit

set_option maxRecDepth 100000 in
set_option maxHeartbeats 4000000 in
theorem unlit_no (s : ByteArray) (w : World) (hs : s.size ≤ 4611686018427387904) (h0 : 0 < s.size) (q : Nat) (hq : bt s.data.toList 0 = q) (hq2 : q = 39 ∨ q = 34) (hs2 : s.size ≤ 100000)
    (ho : unl q sgU.data.toList s.size (s.data.toList.drop 1) = none) :
    Calls Tryd.prog 77 #[.string s] w fun e w' => e = .returned (.tuple #[.string ⟨#[]⟩, .int .i64 0, .int .i64 4]) ∧ Below w.heap.size w w' := by
  have HL := Lib.hid (size_list s)
  have hb0 := bt_of h0
  rw [hq] at hb0
  have HQ := Lib.hid hq
  have HO := Lib.hid ho
  clear hq ho
  have hne : (s.toList.isEmpty) = false := by
    rw [ByteArray.toList_eq]
    cases h : s.data.toList with
    | nil => have := HL.out; rw [h] at this; simp at this; omega
    | cons => rfl
  obtain ⟨i0, hi0, hz0, hz1, hz2⟩ := info_parts u8_info'
  have hqb : q < 256 := by omega
  have h39 : ((q : Int) != 39) = true ∧ ((q : Int) != 34) = false ∨ ((q : Int) != 39) = false := by
    rcases hq2 with rfl | rfl
    · right; decide
    · left; decide
  clear hq2
  rcases h39 with ⟨b1, b2⟩ | b1
  all_goals
    go_enter Tryd.func77, Tryd.ntmps77
    go_wp2_with fail
    go_loopw [5, 6, 7, 8] (fun v i _ _ wr => ∃ (k m f : Nat) (acc : List UInt8) (V : Option Addr) (cp : Nat), 1 ≤ k ∧ k ≤ s.size ∧ s.size - k < f ∧ i = .int .i64 k ∧ v = .slice V m cp ∧ wr.ownsRow w.heap.size 5 1 (.slice V m cp) m (u8s acc) ∧
      m < k ∧ unl q sgU.data.toList f (s.data.toList.drop k) = none ∧ Below w.heap.size w wr) (fun _ i _ _ _ => s.size - (intOf i).toNat)
    case atStart => exact ⟨1, 0, s.size, [], none, 0, by omega, by omega, by omega, rfl, rfl, ⟨rfl, .inl ⟨rfl, rfl⟩⟩, by omega, HO.out, Below.refl _ _⟩
    case round =>
      obtain ⟨k, m, f, acc, V, cp, hk1, hk, hf, rfl, rfl, hown, hmk, hun, hbw⟩ := hrel
      have hmacc : acc.length = m := by have := hown.1; rw [u8s_length] at this; omega
      have hsz := hbw.size
      obtain ⟨f', rfl⟩ : ∃ f', f = f' + 1 := ⟨f - 1, by omega⟩
      by_cases hkn : k < s.size
      · have hne' : s.data.toList.drop k ≠ [] := by
          intro h
          have := congrArg List.length h
          rw [List.length_drop, HL.out, List.length_nil] at this
          omega
        rw [unl_step _ _ _ hne', bt_drop] at hun
        have hbk := bt_of hkn
        have hk0 : (0 : Int) ≤ (k : Int) := by omega
        have hk1 : (k : Int) < (s.size : Int) := by omega
        by_cases hbq : bt s.data.toList k = q
        · rw [if_pos hbq] at hun
          cases hun
        · rw [if_neg hbq] at hun
          generalize hnn : nextN sgU.data.toList (s.data.toList.drop k) = nx at hun
          obtain ⟨b, n⟩ := nx
          have hnb := nextN_bd sgU.data.toList _ hne'
          rw [hnn] at hnb
          simp only at hnb hun
          obtain ⟨hn1, hn2, hn3⟩ := hnb
          rw [List.length_drop, HL.out] at hn1
          have HNN := Lib.hid hnn
          have hbne : (((bt s.data.toList k : Nat) : Int) == (q : Int)) = false := by rw [beq_eq_false_iff_ne]; omega
          by_cases hn0 : n = 0
          · subst hn0
            clear hun hnn hne' hbq
            go_wp2
            go_quiet (fail)
            go_wp2_with fail
            refine (nextq_any (s.extract k s.size) ⟨#[39, 34, 92]⟩ _ ?_).mono ?_
            · have := size_list (s.extract k s.size); rw [Lib.extract_to_end, List.length_drop, HL.out] at this; omega
            rw [Lib.extract_to_end]
            unfold NextQ
            rw [show (⟨#[39, 34, 92]⟩ : ByteArray).data.toList = sgU.data.toList from rfl, HNN.out]
            rintro e w2 ⟨rfl, d, rfl⟩
            go_wp2
            go_ret3
            exact ⟨rfl, below_drewN hbw _⟩
          · rw [if_neg hn0, List.drop_drop] at hun
            have hun2 := Option.map_eq_none_iff.1 hun
            have HREL := Lib.hid hun2
            have hbn : ((b : Int)) = ((UInt8.ofNat b).toNat : Int) := by simp; omega
            have HBN := Lib.hid hbn
            have hn00 : ((n : Int) == 0) = false := by rw [beq_eq_false_iff_ne]; omega
            have hlen : m + 1 ≤ 140737488351232 := by omega
            clear hun hun2 hnn hbn hne' hbq
            go_wp2
            go_quiet (fail)
            go_wp2_with fail
            refine (nextq_any (s.extract k s.size) ⟨#[39, 34, 92]⟩ _ ?_).mono ?_
            · have := size_list (s.extract k s.size); rw [Lib.extract_to_end, List.length_drop, HL.out] at this; omega
            rw [Lib.extract_to_end]
            unfold NextQ
            rw [show (⟨#[39, 34, 92]⟩ : ByteArray).data.toList = sgU.data.toList from rfl, HNN.out]
            rintro e w2 ⟨rfl, d, rfl⟩
            rw [HBN.out]
            generalize UInt8.ofNat b = B at *
            go_wp2_with (at_builtin; refine wpList_append_lies _ rfl _ _ _ rfl w.heap.size 5 i0 _ 1 1 Tryd.underlying158 hi0 hz0 hz1 hz2 rfl (by omega) (.slice V m cp) m _ rfl (hown.alloc _) ⟨wr.heap.size, 0, none⟩ 1 1 [.int .u8 B.toNat] rfl rfl (World.news_of_block (cs := #[.int .u8 B.toNat]) (t := 5) (fr := (0, 0)) (heap_alloc_new wr _)) (by simp [Value.oneCell']) (by omega) (by unfold maxLen; omega) (by omega) (by simp; omega) (wr.heap.size + 1) (by simp) ?_; intro gg cap w1 hown1 hgrow hat hlt)
            go_roundw
            case rel => exact ⟨k + n, m + 1, f', acc ++ [B], _, cap, by omega, by omega, by omega, by go_num, rfl, by rw [u8s_append]; exact hown1, by omega, HREL.out, below_app (below_drewN (hbw.alloc hsz _) _) (hown.alloc _) hgrow (by simp; omega) (Nat.le_refl _)⟩
            case measure => simp [intOf]; omega
      · obtain rfl : k = s.size := by omega
        clear hun
        go_wp2
        go_ret3
        exact ⟨rfl, hbw⟩
end Go.Proofs.YtndhbdbfjkmloaaDoor
