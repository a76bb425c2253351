/- The walk of the law SetCounts: it returns true, and what was there stays as it was. -/
import Derived.Test.YtkoenjnjkapfmaaDoorSetJ
import Derived.Test.YtkoenjnjkapfmaaDoorSetD3
import Derived.Test.YtkoenjnjkapfmaaDoorQuiet
namespace Go.Proofs.YtkoenjnjkapfmaaDoor
open Go.RowKit

def orL (l l' : List Nat) : List Nat := [l.getD 0 0 ||| l'.getD 0 0, l.getD 1 0 ||| l'.getD 1 0, l.getD 2 0 ||| l'.getD 2 0, l.getD 3 0 ||| l'.getD 3 0]
def andL (l l' : List Nat) : List Nat := [l.getD 0 0 &&& l'.getD 0 0, l.getD 1 0 &&& l'.getD 1 0, l.getD 2 0 &&& l'.getD 2 0, l.getD 3 0 &&& l'.getD 3 0]
theorem Words.four {a b c d : Nat} (ha : a < 18446744073709551616) (hb : b < 18446744073709551616) (hc : c < 18446744073709551616) (hd : d < 18446744073709551616) : Words [a, b, c, d] := fun i => by
  match i with
  | 0 => exact ha
  | 1 => exact hb
  | 2 => exact hc
  | 3 => exact hd
  | i + 4 => simp
theorem or_lt {a b : Nat} (ha : a < 18446744073709551616) (hb : b < 18446744073709551616) : a ||| b < 18446744073709551616 := by
  have := Nat.or_lt_two_pow (n := 64) (x := a) (y := b) (by simpa using ha) (by simpa using hb)
  simpa using this
theorem and_lt {a b : Nat} (ha : a < 18446744073709551616) : a &&& b < 18446744073709551616 := Nat.lt_of_le_of_lt Nat.and_le_left ha
theorem orL_words {l l' : List Nat} (h : Words l) (h' : Words l') : Words (orL l l') := Words.four (or_lt (h 0) (h' 0)) (or_lt (h 1) (h' 1)) (or_lt (h 2) (h' 2)) (or_lt (h 3) (h' 3))
theorem andL_words {l l' : List Nat} (h : Words l) : Words (andL l l') := Words.four (and_lt (h 0)) (and_lt (h 1)) (and_lt (h 2)) (and_lt (h 3))
theorem join_v {l l' : List Nat} (h : Words l) (h' : Words l') (w : World) : Calls Tryd.prog 5 #[vals l, vals l'] w fun e w' => e = .returned (vals (orL l l')) ∧ Below w.heap.size w w' := by
  have := join_any ⟨(l.getD 0 0 : Nat), (l.getD 1 0 : Nat), (l.getD 2 0 : Nat), (l.getD 3 0 : Nat)⟩ ⟨(l'.getD 0 0 : Nat), (l'.getD 1 0 : Nat), (l'.getD 2 0 : Nat), (l'.getD 3 0 : Nat)⟩ w
  unfold S4.map2 orU S4.val at this
  simp only [u64_or_nat _ _ (h 0) (h' 0), u64_or_nat _ _ (h 1) (h' 1), u64_or_nat _ _ (h 2) (h' 2), u64_or_nat _ _ (h 3) (h' 3)] at this
  exact this
theorem meet_v {l l' : List Nat} (h : Words l) (h' : Words l') (w : World) : Calls Tryd.prog 6 #[vals l, vals l'] w fun e w' => e = .returned (vals (andL l l')) ∧ Below w.heap.size w w' := by
  have := meet_any ⟨(l.getD 0 0 : Nat), (l.getD 1 0 : Nat), (l.getD 2 0 : Nat), (l.getD 3 0 : Nat)⟩ ⟨(l'.getD 0 0 : Nat), (l'.getD 1 0 : Nat), (l'.getD 2 0 : Nat), (l'.getD 3 0 : Nat)⟩ w
  unfold S4.map2 andU S4.val at this
  simp only [u64_and_nat _ _ (h 0) (h' 0), u64_and_nat _ _ (h 1) (h' 1), u64_and_nat _ _ (h 2) (h' 2), u64_and_nat _ _ (h 3) (h' 3)] at this
  exact this
theorem cnt_two (l l' : List Nat) : cnt (orL l l') 256 + cnt (andL l l') 256 = cnt l 256 + cnt l' 256 := by
  have h0 := pcN_two 64 (l.getD 0 0) (l'.getD 0 0)
  have h1 := pcN_two 64 (l.getD 1 0) (l'.getD 1 0)
  have h2 := pcN_two 64 (l.getD 2 0) (l'.getD 2 0)
  have h3 := pcN_two 64 (l.getD 3 0) (l'.getD 3 0)
  simp only [cnt_all, orL, andL, List.getD_cons_zero, List.getD_cons_succ]
  omega
theorem range_09 (w : World) : Calls Tryd.prog 7 #[.int .i64 0, .int .i64 9] w fun e w' => e = .returned (.agg #[.int .u64 1023, .int .u64 0, .int .u64 0, .int .u64 0]) ∧ Below w.heap.size w w' := by
  have h : rangeL 0 10 = [1023, 0, 0, 0] := by decide +kernel
  have hr := range_any 0 9 w (by unfold I64; omega) (by unfold I64; omega) 0 10 (by omega) (by omega)
  rw [h] at hr
  exact hr
theorem count_10 (w : World) : Calls Tryd.prog 4 #[.agg #[.int .u64 1023, .int .u64 0, .int .u64 0, .int .u64 0]] w fun e w' => e = .returned (.int .i64 10) ∧ Below w.heap.size w w' := by
  have := count_any [1023, 0, 0, 0] (Words.four (by omega) (by omega) (by omega) (by omega)) w
  rw [show cnt [1023, 0, 0, 0] 256 = 10 from by decide +kernel] at this
  exact this

/-- two sets that were boxed lie where they lay -/
structure Boxed2 (w0 : World) (n : Nat) (s t : Array Value) (w : World) : Prop where
  s : Blk w n 24 s
  t : Blk w (n + 1) 24 t
  b : Below n w0 w
theorem Boxed2.step {w0 : World} {n : Nat} {s t : Array Value} {w w' : World} (h : Boxed2 w0 n s t w) (hb : Below w.heap.size w w') : Boxed2 w0 n s t w' :=
  ⟨h.s.below hb h.s.lt, h.t.below hb h.t.lt, h.b.trans (hb.mono (by have := h.s.lt; omega))⟩
theorem Boxed2.drew {w0 : World} {n : Nat} {s t : Array Value} {w : World} (h : Boxed2 w0 n s t w) : Boxed2 w0 n s t w.drew := ⟨h.s.drew, h.t.drew, h.b.drew⟩

set_option maxRecDepth 100000 in
set_option maxHeartbeats 4000000 in
theorem walk_SetCounts (l l' : List Nat) (hl : Words l) (hl' : Words l') (w : World) (hT : TabAt w) :
    Calls Tryd.prog 3 #[vals l, vals l'] w fun e w' => e = .returned (.bool true) ∧ Below w.heap.size w w' := by
  have hpos := hT.pos
  have HT := Lib.hid hT
  have HJ : Hid (∀ w, Calls Tryd.prog 5 #[vals l, vals l'] w fun e w' => e = .returned (vals (orL l l')) ∧ Below w.heap.size w w') := fun w => join_v hl hl' w
  have HM : Hid (∀ w, Calls Tryd.prog 6 #[vals l, vals l'] w fun e w' => e = .returned (vals (andL l l')) ∧ Below w.heap.size w w') := fun w => meet_v hl hl' w
  have H1 : Hid (∀ w, Calls Tryd.prog 4 #[vals (orL l l')] w fun e w' => e = .returned (.int .i64 (cnt (orL l l') 256)) ∧ Below w.heap.size w w') := fun w => count_any _ (orL_words hl hl') w
  have H2 : Hid (∀ w, Calls Tryd.prog 4 #[vals (andL l l')] w fun e w' => e = .returned (.int .i64 (cnt (andL l l') 256)) ∧ Below w.heap.size w w') := fun w => count_any _ (andL_words hl) w
  have H3 : Hid (∀ w, Calls Tryd.prog 4 #[vals l] w fun e w' => e = .returned (.int .i64 (cnt l 256)) ∧ Below w.heap.size w w') := fun w => count_any _ hl w
  have H4 : Hid (∀ w, Calls Tryd.prog 4 #[vals l'] w fun e w' => e = .returned (.int .i64 (cnt l' 256)) ∧ Below w.heap.size w w') := fun w => count_any _ hl' w
  have HF : Hid (∀ (f : Nat) (W : World), f ≤ 256 → TabAt W → Calls Tryd.prog 8 #[vals l, .int .i64 f] W fun e w' => ∃ r, e = .returned (.int .i64 r) ∧ FirstIs l f r ∧ Below W.heap.size W w') := fun f W hf hT => first_any l hl f hf W hT
  have HH : Hid (∀ (b : Nat) (W : World), b < 256 → Calls Tryd.prog 9 #[vals l, .int .u8 b] W fun e w' => e = .returned (.bool (hasN l b)) ∧ Below W.heap.size W w') := fun b W hb => has_any l hl b hb W
  have HY : Hid (∀ (W : World), TabAt W → Calls Tryd.prog 10 #[vals l] W fun e w' => ∃ s : ByteArray, e = .returned (.string s) ∧ s.size = cnt l 256 ∧ Below W.heap.size W w') := fun W hT => bytes_any l hl W hT
  have h2 := cnt_two l l'
  have b1 := cnt_le (orL l l') 256
  have b2 := cnt_le (andL l l') 256
  have b3 := cnt_le l 256
  have b4 := cnt_le l' 256
  clear hl hl' hT
  have s1 : IntKind.i64.wrap ((cnt (orL l l') 256 : Nat) + (cnt (andL l l') 256 : Nat) : Int) = (cnt (orL l l') 256 : Nat) + (cnt (andL l l') 256 : Nat) := IntWalk.i64_in _ (by omega)
  have s2 : IntKind.i64.wrap ((cnt l 256 : Nat) + (cnt l' 256 : Nat) : Int) = (cnt l 256 : Nat) + (cnt l' 256 : Nat) := IntWalk.i64_in _ (by omega)
  have s3 : (((cnt (orL l l') 256 : Nat) + (cnt (andL l l') 256 : Nat) : Int) != ((cnt l 256 : Nat) + (cnt l' 256 : Nat) : Int)) = false := by simp; omega
  generalize cnt (orL l l') 256 = N1 at H1 s1 s3
  generalize cnt (andL l l') 256 = N2 at H2 s1 s3
  generalize hN3 : cnt l 256 = N3 at H3 s2 s3 HY b3
  generalize cnt l' 256 = N4 at H4 s2 s3
  have HN3 := Lib.hid hN3
  clear h2 b1 b2 b4 hN3
  unfold vals at *
  generalize (orL l l').getD 0 0 = o0 at *
  generalize (orL l l').getD 1 0 = o1 at *
  generalize (orL l l').getD 2 0 = o2 at *
  generalize (orL l l').getD 3 0 = o3 at *
  generalize (andL l l').getD 0 0 = n0 at *
  generalize (andL l l').getD 1 0 = n1 at *
  generalize (andL l l').getD 2 0 = n2 at *
  generalize (andL l l').getD 3 0 = n3 at *
  generalize l.getD 0 0 = e0 at *
  generalize l.getD 1 0 = e1 at *
  generalize l.getD 2 0 = e2 at *
  generalize l.getD 3 0 = e3 at *
  generalize l'.getD 0 0 = f0 at *
  generalize l'.getD 1 0 = f1 at *
  generalize l'.getD 2 0 = f2 at *
  generalize l'.getD 3 0 = f3 at *
  go_enter Tryd.func3, Tryd.ntmps3
  go_wp2_with fail
  have hB : Boxed2 w w.heap.size #[.int .u64 e0, .int .u64 e1, .int .u64 e2, .int .u64 e3] #[.int .u64 f0, .int .u64 f1, .int .u64 f2, .int .u64 f3]
      ((w.alloc (.cells #[.int .u64 e0, .int .u64 e1, .int .u64 e2, .int .u64 e3] 24)).alloc (.cells #[.int .u64 f0, .int .u64 f1, .int .u64 f2, .int .u64 f3] 24)) :=
    ⟨(blk_at rfl).alloc _, blk_at (by simp), (by repeat (first | exact Below.refl _ _ | assumption | refine Below.drew ?_ | refine below_drewN ?_ _ | refine Below.alloc ?_ (by first | omega | (simp; omega) | simp) _ | refine Below.setCell ?_ (by first | omega | (simp; omega) | simp) _))⟩
  try simp only [List.append]
  refine wp_region_quiet (C := Boxed2 w w.heap.size #[.int .u64 e0, .int .u64 e1, .int .u64 e2, .int .u64 e3] #[.int .u64 f0, .int .u64 f1, .int .u64 f2, .int .u64 f3]) (by kernel_rfl) (by kernel_rfl) hB.drew ?_
  clear hB
  repeat
    (first | refine wpQuiet_no rfl ?_ | (apply wpQuiet_yes rfl; · (intro W hW; have c1 := hW.s.cell; have c2 := hW.t.cell; go_simp; first | rfl | (go_at_call 5; (with_reducible refine (HJ.out _).mono ?_); exact fun e w' h => ⟨h.1, hW.step h.2⟩) | (go_at_call 6; (with_reducible refine (HM.out _).mono ?_); exact fun e w' h => ⟨h.1, hW.step h.2⟩) | (go_at_call 4; (with_reducible refine (H1.out _).mono ?_); exact fun e w' h => ⟨h.1, hW.step h.2⟩) | (go_at_call 4; (with_reducible refine (H2.out _).mono ?_); exact fun e w' h => ⟨h.1, hW.step h.2⟩) | (go_at_call 4; (with_reducible refine (H3.out _).mono ?_); exact fun e w' h => ⟨h.1, hW.step h.2⟩) | (go_at_call 4; (with_reducible refine (H4.out _).mono ?_); exact fun e w' h => ⟨h.1, hW.step h.2⟩) | (go_at_call 7; (with_reducible refine (range_09 _).mono ?_); exact fun e w' h => ⟨h.1, hW.step h.2⟩) | (go_at_call 4; (with_reducible refine (count_10 _).mono ?_); exact fun e w' h => ⟨h.1, hW.step h.2⟩)))); (try simp only [Act.put, List.setIfInBounds_toArray, List.set_cons_zero, List.set_cons_succ])
  refine wpQuiet_nil ?_
  intro w1 hw1
  have hb1 := hw1.b
  have hB1 := hw1.s
  clear hw1
  have y0 : w1.cell? ⟨w.heap.size, 0, none⟩ = some (.int .u64 e0) := hB1.cell 0
  have y1 : w1.cell? ⟨w.heap.size, 1, none⟩ = some (.int .u64 e1) := hB1.cell 1
  have y2 : w1.cell? ⟨w.heap.size, 2, none⟩ = some (.int .u64 e2) := hB1.cell 2
  have y3 : w1.cell? ⟨w.heap.size, 3, none⟩ = some (.int .u64 e3) := hB1.cell 3
  go_wp2_with fail
  refine (HF.out 0 _ (by omega) (HT.out.below hb1 hpos)).mono ?_
  rintro e w2 ⟨r, rfl, hr, hb2⟩
  have hB2 := hB1.below hb2 hB1.lt
  have hbw2 := hb1.trans (hb2.mono hb1.size)
  clear hb1 hb2 hB1 y0 y1 y2 y3
  go_wp2_with fail
  go_loopw [5, 6, 7] (fun n t b wr => ∃ (f : Nat) (r : Int), f ≤ 256 ∧ b = .int .i64 r ∧ n = .int .i64 (cnt l f : Nat) ∧ t = .int .i64 ((f : Int) - 1) ∧ Hid (FirstIs l f r) ∧ Below w.heap.size w wr ∧ Blk wr w.heap.size 24 #[.int .u64 e0, .int .u64 e1, .int .u64 e2, .int .u64 e3]) (fun _ _ b _ => (300 - intOf b).toNat % 301)
  case atStart => exact ⟨0, r, by omega, rfl, rfl, rfl, hr, hbw2, hB2⟩
  case round =>
    obtain ⟨f, r, hf, rfl, rfl, rfl, HR, hbw, hB⟩ := hrel
    have z0 : wr.cell? ⟨w.heap.size, 0, none⟩ = some (.int .u64 e0) := hB.cell 0
    have z1 : wr.cell? ⟨w.heap.size, 1, none⟩ = some (.int .u64 e1) := hB.cell 1
    have z2 : wr.cell? ⟨w.heap.size, 2, none⟩ = some (.int .u64 e2) := hB.cell 2
    have z3 : wr.cell? ⟨w.heap.size, 3, none⟩ = some (.int .u64 e3) := hB.cell 3
    have hcl := cnt_le l f
    have hcl2 : cnt l f ≤ 256 := by omega
    by_cases hr0 : 0 ≤ r
    · obtain ⟨b, rfl⟩ := Int.eq_ofNat_of_zero_le hr0
      obtain ⟨h1, h2, h3, h4⟩ := HR.out.cnt
      have HC := Lib.hid h4
      have HHB := HH.out b
      rw [h3] at HHB
      have HHB2 := Lib.hid HHB
      have hwb : IntKind.u8.wrap (b : Int) = (b : Int) := by rw [IntKind.wrap_u8]; omega
      have d1 : ¬ ((b : Int) ≤ (f : Int) - 1) := by omega
      have d2 : ¬ ((b : Int) > 255) := by omega
      clear h3 h4 HHB
      generalize cnt l f = m at hcl hcl2 HC ⊢
      go_wp2_with fail
      refine (HHB2.out _ h2).mono ?_
      rintro e w3 ⟨rfl, hb3⟩
      have hB3 := hB.below hb3 hB.lt
      have hbw3 := hbw.trans (hb3.mono hbw.size)
      have y0 : w3.cell? ⟨w.heap.size, 0, none⟩ = some (.int .u64 e0) := hB3.cell 0
      have y1 : w3.cell? ⟨w.heap.size, 1, none⟩ = some (.int .u64 e1) := hB3.cell 1
      have y2 : w3.cell? ⟨w.heap.size, 2, none⟩ = some (.int .u64 e2) := hB3.cell 2
      have y3 : w3.cell? ⟨w.heap.size, 3, none⟩ = some (.int .u64 e3) := hB3.cell 3
      go_wp2_with fail
      refine (HF.out (b + 1) _ (by omega) (HT.out.below hbw3 hpos)).mono ?_
      rintro e w4 ⟨r', rfl, hr', hb4⟩
      have h300 : Hid ((300 - r').toNat % 301 < 300 - b) := by
        show (300 - r').toNat % 301 < 300 - b
        rcases hr' with ⟨b', rfl, h1, h2', _, _⟩ | ⟨rfl, _⟩ <;> omega
      have HR2 := Lib.hid hr'
      clear hr'
      go_wp2
      go_roundw
      case rel => exact ⟨b + 1, r', by omega, rfl, by rw [HC.out]; go_num, by go_num, HR2, hbw3.trans (hb4.mono hbw3.size), hB3.below hb4 hB3.lt⟩
      case measure =>
        have := h300.out
        simp only [intOf]
        omega
    · have hcnt := HR.out.none (by omega) hf
      rw [HN3.out] at hcnt
      rw [hcnt]
      go_wp2_with fail
      refine (H3.out _).mono ?_
      rintro e w3 ⟨rfl, hb3⟩
      have hB3 := hB.below hb3 hB.lt
      have hbw3 := hbw.trans (hb3.mono hbw.size)
      have y0 : w3.cell? ⟨w.heap.size, 0, none⟩ = some (.int .u64 e0) := hB3.cell 0
      have y1 : w3.cell? ⟨w.heap.size, 1, none⟩ = some (.int .u64 e1) := hB3.cell 1
      have y2 : w3.cell? ⟨w.heap.size, 2, none⟩ = some (.int .u64 e2) := hB3.cell 2
      have y3 : w3.cell? ⟨w.heap.size, 3, none⟩ = some (.int .u64 e3) := hB3.cell 3
      go_wp2_with fail
      refine (HY.out _ (HT.out.below hbw3 hpos)).mono ?_
      rintro e w4 ⟨s, rfl, hs, hb4⟩
      go_wp2
      go_ret
      exact ⟨by simp, hbw3.trans (hb4.mono hbw3.size)⟩
end Go.Proofs.YtkoenjnjkapfmaaDoor
