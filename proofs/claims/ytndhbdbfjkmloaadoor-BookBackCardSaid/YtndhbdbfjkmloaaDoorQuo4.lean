/- What quote.Unlit answers of a text that begins with a literal. -/
import Derived.Test.YtndhbdbfjkmloaaDoorQuo3
import Derived.Test.YtndhbdbfjkmloaaDoorQuoN
namespace Go.Proofs.YtndhbdbfjkmloaaDoor
open Go.RowKit

/-- a literal read behind its first sign q: its bytes, and how many signs it takes, the last one with it -/
def unl (q : Nat) (sg : List UInt8) : Nat → List UInt8 → Option (List UInt8 × Nat)
  | 0, _ => none
  | _ + 1, [] => none
  | f + 1, l => if bt l 0 = q then some ([], 1) else if (nextN sg l).2 = 0 then none else (unl q sg f (l.drop (nextN sg l).2)).map fun x => (UInt8.ofNat (nextN sg l).1 :: x.1, (nextN sg l).2 + x.2)

theorem unl_step (q : Nat) (sg : List UInt8) (f : Nat) {l : List UInt8} (hl : l ≠ []) : unl q sg (f + 1) l = if bt l 0 = q then some ([], 1) else if (nextN sg l).2 = 0 then none else (unl q sg f (l.drop (nextN sg l).2)).map fun x => (UInt8.ofNat (nextN sg l).1 :: x.1, (nextN sg l).2 + x.2) := by
  cases l with
  | nil => exact absurd rfl hl
  | cons => rfl
theorem unl_nil (q : Nat) (sg : List UInt8) : ∀ f, unl q sg f [] = none
  | 0 => rfl
  | _ + 1 => rfl
/-- the signs that stand behind a stroke in a literal -/
def sgU : ByteArray := ⟨#[39, 34, 92]⟩
theorem string_own {w : World} {base n c : Nat} {V : Option Addr} {l : List UInt8} (h : w.ownsRow base 5 1 (.slice V n c) n (u8s l)) :
    (convert 158 9 (.slice V n c)).run Tryd.prog w = .ok (.string ⟨l.toArray⟩) w := by
  have hl : l.length = n := by have := h.1; rw [u8s_length] at this; omega
  rcases h.2 with ⟨h1, rfl⟩ | ⟨g', cap, cur, hv, _, hh, _, _, _, ht⟩
  · simp only [Value.slice.injEq] at h1
    obtain ⟨rfl, _, rfl⟩ := h1
    have : l = [] := List.eq_nil_of_length_eq_zero hl
    subst this
    have hu := Tryd.underlying9
    have := run_convert_bytes_string (P := Tryd.prog) w 158 9 5 none 0 0 Tryd.underlying158 Tryd.underlying5 hu
    rw [this]
    rfl
  · simp only [Value.slice.injEq] at hv
    obtain ⟨rfl, _, _⟩ := hv
    rw [Nat.mul_one] at ht
    exact string_of Tryd.underlying158 Tryd.underlying5 Tryd.underlying9 (BlkZ.of hh) hl ht

theorem u8_info' : (Tryd.prog.info? 5).map (fun i => (i.zero, i.size, i.bytes)) = some (some (.int .u8 0), 1, 1) := by kernel_rfl
theorem bt_drop (l : List UInt8) (k : Nat) : bt (l.drop k) 0 = bt l k := by
  unfold bt; rw [List.getD_eq_getElem?_getD, List.getD_eq_getElem?_getD, List.getElem?_drop, Nat.add_zero]

set_option maxRecDepth 100000 in
set_option maxHeartbeats 4000000 in
theorem unlit_yes (s : ByteArray) (w : World) (hs : s.size ≤ 4611686018427387904) (h0 : 0 < s.size) (q : Nat) (hq : bt s.data.toList 0 = q) (hq2 : q = 39 ∨ q = 34) (o : List UInt8) (c : Nat)
    (ho : unl q sgU.data.toList s.size (s.data.toList.drop 1) = some (o, c)) (hob : o.length ≤ 140737488351232) :
    Calls Tryd.prog 77 #[.string s] w fun e w' => e = .returned (.tuple #[.string ⟨o.toArray⟩, .int .i64 ((1 + c : Nat) : Int), .int .i64 0]) ∧ Below w.heap.size w w' := by
  have HL := Lib.hid (size_list s)
  have hb0 := bt_of h0
  rw [hq] at hb0
  have HQ := Lib.hid hq
  have HO := Lib.hid ho
  clear hq ho
  have hne : (s.toList.isEmpty) = false := by
    rw [ByteArray.toList_eq]
    cases h : s.data.toList with
    | nil => have := HL.out; rw [h] at this; simp at this; omega
    | cons => rfl
  obtain ⟨i0, hi0, hz0, hz1, hz2⟩ := info_parts u8_info'
  have hqb : q < 256 := by omega
  have h39 : ((q : Int) != 39) = true ∧ ((q : Int) != 34) = false ∨ ((q : Int) != 39) = false := by
    rcases hq2 with rfl | rfl
    · right; decide
    · left; decide
  clear hq2
  rcases h39 with ⟨b1, b2⟩ | b1
  all_goals
    go_enter Tryd.func77, Tryd.ntmps77
    go_wp2_with fail
    go_loopw [5, 6, 7, 8] (fun v i _ _ wr => ∃ (k m f : Nat) (acc : List UInt8) (V : Option Addr) (cp : Nat), 1 ≤ k ∧ k ≤ s.size ∧ s.size - k < f ∧ i = .int .i64 k ∧ v = .slice V m cp ∧ wr.ownsRow w.heap.size 5 1 (.slice V m cp) m (u8s acc) ∧
      (unl q sgU.data.toList f (s.data.toList.drop k)).map (fun x => (acc ++ x.1, k + x.2)) = some (o, 1 + c) ∧ Below w.heap.size w wr) (fun _ i _ _ _ => s.size - (intOf i).toNat)
    case atStart => exact ⟨1, 0, s.size, [], none, 0, by omega, by omega, by omega, rfl, rfl, ⟨rfl, .inl ⟨rfl, rfl⟩⟩, by rw [HO.out]; simp, Below.refl _ _⟩
    case round =>
      obtain ⟨k, m, f, acc, V, cp, hk1, hk, hf, rfl, rfl, hown, hun, hbw⟩ := hrel
      have hmacc : acc.length = m := by have := hown.1; rw [u8s_length] at this; omega
      have hsz := hbw.size
      obtain ⟨f', rfl⟩ : ∃ f', f = f' + 1 := ⟨f - 1, by omega⟩
      by_cases hkn : k < s.size
      · have hne' : s.data.toList.drop k ≠ [] := by
          intro h
          have := congrArg List.length h
          rw [List.length_drop, HL.out, List.length_nil] at this
          omega
        rw [unl_step _ _ _ hne', bt_drop] at hun
        have hbk := bt_of hkn
        have hk0 : (0 : Int) ≤ (k : Int) := by omega
        have hk1 : (k : Int) < (s.size : Int) := by omega
        by_cases hbq : bt s.data.toList k = q
        · rw [if_pos hbq] at hun
          have hun' : acc = o ∧ k + 1 = 1 + c := by simpa using hun
          obtain ⟨rfl, hkc⟩ := hun'
          rw [hbq] at hbk
          have hstr := string_own hown
          have HKC := Lib.hid hkc
          clear hun hbq hkc
          go_wp2
          go_quiet (fail)
          have hstr' := string_own (w := wr.drewN nq) hown
          go_wp2
          go_ret3
          exact ⟨by rw [← HKC.out]; rfl, below_drewN hbw _⟩
        · rw [if_neg hbq] at hun
          generalize hnn : nextN sgU.data.toList (s.data.toList.drop k) = nx at hun
          obtain ⟨b, n⟩ := nx
          have hnb := nextN_bd sgU.data.toList _ hne'
          rw [hnn] at hnb
          simp only at hnb hun
          obtain ⟨hn1, hn2, hn3⟩ := hnb
          rw [List.length_drop, HL.out] at hn1
          by_cases hn0 : n = 0
          · rw [if_pos hn0] at hun; cases hun
          · rw [if_neg hn0, List.drop_drop] at hun
            generalize hu2 : unl q sgU.data.toList f' (s.data.toList.drop (k + n)) = R at hun
            cases R with
            | none => cases hun
            | some x =>
              obtain ⟨x1, x2⟩ := x
              have hun' : acc ++ UInt8.ofNat b :: x1 = o ∧ k + (n + x2) = 1 + c := by simpa using hun
              have hlen : m + 1 ≤ 140737488351232 := by
                have := congrArg List.length hun'.1
                simp at this
                omega
              have hrel : (unl q sgU.data.toList f' (s.data.toList.drop (k + n))).map (fun x => (acc ++ [UInt8.ofNat b] ++ x.1, k + n + x.2)) = some (o, 1 + c) := by
                rw [hu2]
                simp only [Option.map_some, List.append_assoc, List.singleton_append, hun'.1]
                rw [← hun'.2]
                congr 2
                omega
              have HREL := Lib.hid hrel
              have HNN := Lib.hid hnn
              have hbn : ((b : Int)) = ((UInt8.ofNat b).toNat : Int) := by simp; omega
              have HBN := Lib.hid hbn
              have hn00 : ((n : Int) == 0) = false := by rw [beq_eq_false_iff_ne]; omega
              have hbne : (((bt s.data.toList k : Nat) : Int) == (q : Int)) = false := by rw [beq_eq_false_iff_ne]; omega
              clear hun hun' hrel hnn hbn hu2 hne' hbq
              go_wp2
              go_quiet (fail)
              go_wp2_with fail
              refine (nextq_any (s.extract k s.size) ⟨#[39, 34, 92]⟩ _ ?_).mono ?_
              · have := size_list (s.extract k s.size); rw [Lib.extract_to_end, List.length_drop, HL.out] at this; omega
              rw [Lib.extract_to_end]
              unfold NextQ
              rw [show (⟨#[39, 34, 92]⟩ : ByteArray).data.toList = sgU.data.toList from rfl, HNN.out]
              rintro e w2 ⟨rfl, d, rfl⟩
              rw [HBN.out]
              generalize UInt8.ofNat b = B at *
              go_wp2_with (at_builtin; refine wpList_append_lies _ rfl _ _ _ rfl w.heap.size 5 i0 _ 1 1 Tryd.underlying158 hi0 hz0 hz1 hz2 rfl (by omega) (.slice V m cp) m _ rfl (hown.alloc _) ⟨wr.heap.size, 0, none⟩ 1 1 [.int .u8 B.toNat] rfl rfl (World.news_of_block (cs := #[.int .u8 B.toNat]) (t := 5) (fr := (0, 0)) (heap_alloc_new wr _)) (by simp [Value.oneCell']) (by omega) (by unfold maxLen; omega) (by omega) (by simp; omega) (wr.heap.size + 1) (by simp) ?_; intro gg cap w1 hown1 hgrow hat hlt)
              go_roundw
              case rel => exact ⟨k + n, m + 1, f', acc ++ [B], _, cap, by omega, by omega, by omega, by go_num, rfl, by rw [u8s_append]; exact hown1, HREL.out, below_app (below_drewN (hbw.alloc hsz _) _) (hown.alloc _) hgrow (by simp; omega) (Nat.le_refl _)⟩
              case measure => simp [intOf]; omega
      · obtain rfl : k = s.size := by omega
        rw [List.drop_of_length_le (by rw [HL.out]; omega), unl_nil] at hun
        cases hun
end Go.Proofs.YtndhbdbfjkmloaaDoor
