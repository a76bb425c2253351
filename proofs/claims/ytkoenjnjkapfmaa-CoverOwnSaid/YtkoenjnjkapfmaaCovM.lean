/- The walk of the law CoverMerge: it returns true, and what was there stays as it was. -/
import Derived.Test.YtkoenjnjkapfmaaCovLaw
import Derived.Deep.QuietTactic
namespace Go.Proofs.Ytkoenjnjkapfmaa
open Go.RowKit

theorem equal_yes (A A' : Option Addr) (n c n' c' : Nat) (zs ys : List Int) (B B' : Nat) (w : World) (hr : Reads w B 1 A n (ints zs)) (hr' : Reads w B' 1 A' n' (ints ys)) (hn : Small n) (h : zs = ys) :
    Calls Try.prog 19 #[.slice A n c, .slice A' n' c'] w fun e w' => e = .returned (.bool true) ∧ Below w.heap.size w w' :=
  (equal_any A A' n c n' c' zs ys B B' w hr hr' hn).mono fun e w' ⟨he, d, hw⟩ => ⟨by rw [he, decide_eq_true h], by rw [hw]; exact below_drewN (Below.refl _ _) d⟩

theorem merge_yes (A A' : Option Addr) (n c n' c' : Nat) (a b v : List Int) (m B B' : Nat) (w : World) (ha : Reads w B 1 A n (ints a)) (hb : Reads w B' 1 A' n' (ints b)) (hB : B ≤ w.heap.size) (hB' : B' ≤ w.heap.size) (he : mergeE a b = 0) (hv : mergeV a b = v) (hl : v.length = m) :
    Calls Try.prog 18 #[.slice A n c, .slice A' n' c'] w fun e w' => ∃ V c, e = .returned (.tuple #[.slice V m c, .int .i64 0]) ∧ Reads w' w'.heap.size 1 V m (ints v) ∧ Below w.heap.size w w' :=
  (merge_any A A' n c n' c' a b B B' w ha hb hB hB').mono fun e w' ⟨V, c, h1, h2, h3⟩ => ⟨V, c, by rw [h1, hv, he, hl], by have := Reads.of_own h2; rwa [hv, hl] at this, h3⟩
theorem merge_no (A A' : Option Addr) (n c n' c' : Nat) (a b : List Int) (B B' : Nat) (w : World) (ha : Reads w B 1 A n (ints a)) (hb : Reads w B' 1 A' n' (ints b)) (hB : B ≤ w.heap.size) (hB' : B' ≤ w.heap.size) (he : mergeE a b ≠ 0) :
    Calls Try.prog 18 #[.slice A n c, .slice A' n' c'] w fun e w' => ∃ V c, e = .returned (.tuple #[.slice V 0 c, .int .i64 (mergeE a b)]) ∧ Below w.heap.size w w' :=
  (merge_any A A' n c n' c' a b B B' w ha hb hB hB').mono fun e w' ⟨V, c, h1, h2, h3⟩ => ⟨V, c, by rw [h1, show mergeV a b = [] from if_neg he]; rfl, h3⟩

theorem walk_CoverMerge (A A' A'' : Option Addr) (n c n' c' n'' c'' : Nat) (a b d : List Int) (w : World)
    (ha : Reads w w.heap.size 1 A n (ints a)) (hb : Reads w w.heap.size 1 A' n' (ints b)) (hd : Reads w w.heap.size 1 A'' n'' (ints d)) :
    Calls Try.prog 4 #[.slice A n c, .slice A' n' c', .slice A'' n'' c''] w fun e w' => e = .returned (.bool true) ∧ Below w.heap.size w w' := by
  obtain ⟨i0, hi0, hi1, hi2, hi3⟩ := info_parts int_info
  go_enter Try.func4, Try.ntmps4
  go_wp2_with fail
  refine (merge_yes _ _ _ _ _ _ [1, 2] [2, 2] [3, 2] 2 (w.heap.size + 2) (w.heap.size + 2) _ ?_ ?_ (by simp) (by simp) (by decide +kernel) (by decide +kernel) rfl).mono ?_
  · exact reads_block ((blk_at rfl).alloc _) rfl rfl (by omega)
  · exact reads_block (blk_at (by simp)) rfl rfl (by omega)
  rintro e w1 ⟨V1, c1, rfl, hr1, hb1⟩
  have hw1 : Below w.heap.size w w1 := Below.trans (by repeat (first | exact Below.refl _ _ | assumption | refine Below.drew ?_ | refine below_drewN ?_ _ | refine Below.alloc ?_ (by first | omega | (simp; omega) | simp) _)) (hb1.mono (by first | omega | (simp; omega) | simp)); have hzw1 := hw1.size; clear hb1
  go_wp2_with fail
  refine (equal_yes _ _ _ _ _ _ [3, 2] [3, 2] w1.heap.size (w1.heap.size + 1) _ (hr1.alloc (by omega) _) (reads_block (blk_at rfl) rfl rfl (by omega)) (by unfold Small; simp) rfl).mono ?_
  rintro e w2 ⟨rfl, hb2⟩
  have hw2 : Below w.heap.size w w2 := Below.trans (by repeat (first | exact Below.refl _ _ | assumption | refine Below.drew ?_ | refine below_drewN ?_ _ | refine Below.alloc ?_ (by first | omega | (simp; omega) | simp) _)) (hb2.mono (by first | omega | (simp; omega) | simp)); have hzw2 := hw2.size; clear hb2
  clear hr1 hw1 hzw1
  go_wp2_with fail
  by_cases hab : mergeE a b = 0
  · obtain ⟨e2, v2⟩ := merge_comm hab
    obtain ⟨e3, v3⟩ := merge_self hab
    obtain ⟨e4, v4⟩ := merge_zeros hab
    have hl3 := mergeV_len hab
    have hla := ha.ints_len
    have hlb := hb.ints_len
    have hlab := (mergeE_zero.1 hab).2.2
    have hn120 : n ≤ 120 := by have := (check_01 (mergeE_zero.1 hab).1).1; omega
    have hsm : Small n := by unfold Small; omega
    obtain rfl : n = n' := by omega
    have hmk := fun W => made_run Try.underlying29 hi0 hi1 .i64 .i64 (Nat.le_refl n) (by rw [hi3]; omega) (by omega) W
    rw [hi2, show madeCells (Value.int .i64 0).cells (n * 1) = zeros n from rfl] at hmk
    have Hab := Lib.hid hab
    have E2 := Lib.hid e2
    have V2 := Lib.hid v2
    have E3 := Lib.hid e3
    have V3 := Lib.hid v3
    have E4 := Lib.hid e4
    have V4 := Lib.hid v4
    have HLA := Lib.hid hla
    have HL3 := Lib.hid (hl3.trans hla)
    clear hab e2 v2 e3 v3 e4 v4 hlb hlab hl3 hla hi0 hi1 hi2 hi3
    refine (merge_yes _ _ _ _ _ _ a b _ n w.heap.size w.heap.size _ (ha.below hw2) (hb.below hw2) hzw2 hzw2 Hab.out rfl HL3.out).mono ?_
    rintro e w3 ⟨X, c3, rfl, hx, hb3⟩
    have hw3 : Below w.heap.size w w3 := Below.trans (by repeat (first | exact Below.refl _ _ | assumption | refine Below.drew ?_ | refine below_drewN ?_ _ | refine Below.alloc ?_ (by first | omega | (simp; omega) | simp) _)) (hb3.mono (by first | omega | (simp; omega) | simp)); have hzw3 := hw3.size; clear hb3
    go_wp2_with fail
    refine (merge_yes _ _ _ _ _ _ b a _ n w.heap.size w.heap.size _ (hb.below hw3) (ha.below hw3) hzw3 hzw3 E2.out V2.out HL3.out).mono ?_
    rintro e w4 ⟨Y, c4, rfl, hy, hb4⟩
    replace hx := hx.on hb4 (Nat.le_refl _)
    have hw4 : Below w.heap.size w w4 := Below.trans (by repeat (first | exact Below.refl _ _ | assumption | refine Below.drew ?_ | refine below_drewN ?_ _ | refine Below.alloc ?_ (by first | omega | (simp; omega) | simp) _)) (hb4.mono (by first | omega | (simp; omega) | simp)); have hzw4 := hw4.size; clear hb4
    go_wp2_with fail
    refine (merge_yes _ _ _ _ _ _ a a _ n w.heap.size w.heap.size _ (ha.below hw4) (ha.below hw4) hzw4 hzw4 E3.out V3.out HLA.out).mono ?_
    rintro e w5 ⟨Z, c5, rfl, hz, hb5⟩
    replace hx := hx.on hb5 (Nat.le_refl _)
    replace hy := hy.on hb5 (Nat.le_refl _)
    have hw5 : Below w.heap.size w w5 := Below.trans (by repeat (first | exact Below.refl _ _ | assumption | refine Below.drew ?_ | refine below_drewN ?_ _ | refine Below.alloc ?_ (by first | omega | (simp; omega) | simp) _)) (hb5.mono (by first | omega | (simp; omega) | simp)); have hzw5 := hw5.size; clear hb5
    go_wp2_with fail
    refine (merge_yes _ _ _ _ _ _ a (List.replicate a.length 0) _ n w.heap.size (w5.heap.size + 1) _ ((ha.below hw5).alloc hzw5 _) (reads_block (blk_at rfl) (by rw [zeros_toList, HLA.out]) (zeros_size n).symm (by omega)) (by simp; omega) (by simp) E4.out V4.out HLA.out).mono ?_
    rintro e w6 ⟨O, c6, rfl, ho, hb6⟩
    replace hx := (hx.alloc_on _).on hb6 (Nat.le_refl _)
    replace hy := (hy.alloc_on _).on hb6 (Nat.le_refl _)
    replace hz := (hz.alloc_on _).on hb6 (Nat.le_refl _)
    have hw6 : Below w.heap.size w w6 := Below.trans (by repeat (first | exact Below.refl _ _ | assumption | refine Below.drew ?_ | refine below_drewN ?_ _ | refine Below.alloc ?_ (by first | omega | (simp; omega) | simp) _)) (hb6.mono (by first | omega | (simp; omega) | simp)); have hzw6 := hw6.size; clear hb6
    clear hmk
    go_wp2_with fail
    refine (equal_yes _ _ _ _ _ _ _ _ _ _ _ hx hy hsm rfl).mono ?_
    rintro e w7 ⟨rfl, hb7⟩
    replace hx := hx.on hb7 (Nat.le_refl _)
    replace hz := hz.on hb7 (Nat.le_refl _)
    replace ho := ho.on hb7 (Nat.le_refl _)
    have hw7 : Below w.heap.size w w7 := Below.trans (by repeat (first | exact Below.refl _ _ | assumption | refine Below.drew ?_ | refine below_drewN ?_ _ | refine Below.alloc ?_ (by first | omega | (simp; omega) | simp) _)) (hb7.mono (by first | omega | (simp; omega) | simp)); have hzw7 := hw7.size; clear hb7
    clear hy
    go_wp2_with fail
    refine (equal_yes _ _ _ _ _ _ _ _ _ _ _ hz (ha.below hw7) hsm rfl).mono ?_
    rintro e w8 ⟨rfl, hb8⟩
    replace hx := hx.on hb8 (Nat.le_refl _)
    replace ho := ho.on hb8 (Nat.le_refl _)
    have hw8 : Below w.heap.size w w8 := Below.trans (by repeat (first | exact Below.refl _ _ | assumption | refine Below.drew ?_ | refine below_drewN ?_ _ | refine Below.alloc ?_ (by first | omega | (simp; omega) | simp) _)) (hb8.mono (by first | omega | (simp; omega) | simp)); have hzw8 := hw8.size; clear hb8
    clear hz
    go_wp2_with fail
    refine (equal_yes _ _ _ _ _ _ _ _ _ _ _ ho (ha.below hw8) hsm rfl).mono ?_
    rintro e w9 ⟨rfl, hb9⟩
    replace hx := hx.on hb9 (Nat.le_refl _)
    have hw9 : Below w.heap.size w w9 := Below.trans (by repeat (first | exact Below.refl _ _ | assumption | refine Below.drew ?_ | refine below_drewN ?_ _ | refine Below.alloc ?_ (by first | omega | (simp; omega) | simp) _)) (hb9.mono (by first | omega | (simp; omega) | simp)); have hzw9 := hw9.size; clear hb9
    clear ho
    go_wp2_with fail
    refine (merge_any _ _ _ _ _ _ (mergeV a b) d _ w.heap.size _ hx (hd.below hw9) (Nat.le_refl _) hzw9).mono ?_
    rintro e w10 ⟨P, c10, rfl, hp, hb10⟩
    replace hp := Reads.of_own hp
    have hw10 : Below w.heap.size w w10 := Below.trans (by repeat (first | exact Below.refl _ _ | assumption | refine Below.drew ?_ | refine below_drewN ?_ _ | refine Below.alloc ?_ (by first | omega | (simp; omega) | simp) _)) (hb10.mono (by first | omega | (simp; omega) | simp)); have hzw10 := hw10.size; clear hb10
    clear hx
    go_wp2_with fail
    refine (merge_any _ _ _ _ _ _ b d w.heap.size w.heap.size _ (hb.below hw10) (hd.below hw10) hzw10 hzw10).mono ?_
    rintro e w11 ⟨Q, c11, rfl, hq, hb11⟩
    replace hq := Reads.of_own hq
    replace hp := hp.on hb11 (Nat.le_refl _)
    have hw11 : Below w.heap.size w w11 := Below.trans (by repeat (first | exact Below.refl _ _ | assumption | refine Below.drew ?_ | refine below_drewN ?_ _ | refine Below.alloc ?_ (by first | omega | (simp; omega) | simp) _)) (hb11.mono (by first | omega | (simp; omega) | simp)); have hzw11 := hw11.size; clear hb11
    by_cases hxd : mergeE (mergeV a b) d = 0
    · by_cases hbd : mergeE b d = 0
      · obtain ⟨e5, v5⟩ := merge_assoc Hab.out hxd hbd
        have hl5 : (mergeV (mergeV a b) d).length = n := (mergeV_len hxd).trans HL3.out
        rw [hxd, hbd, hl5]
        rw [hl5] at hp
        have HL5 := Lib.hid hl5
        clear hl5
        have E5 := Lib.hid e5
        have V5 := Lib.hid v5
        clear hxd hbd e5 v5
        go_wp2_with fail
        refine (merge_yes _ _ _ _ _ _ a (mergeV b d) _ n w.heap.size _ _ (ha.below hw11) hq hzw11 (Nat.le_refl _) E5.out V5.out HL5.out).mono ?_
        rintro e w12 ⟨R, c12, rfl, hr, hb12⟩
        replace hp := hp.on hb12 (Nat.le_refl _)
        have hw12 : Below w.heap.size w w12 := Below.trans (by repeat (first | exact Below.refl _ _ | assumption | refine Below.drew ?_ | refine below_drewN ?_ _ | refine Below.alloc ?_ (by first | omega | (simp; omega) | simp) _)) (hb12.mono (by first | omega | (simp; omega) | simp)); have hzw12 := hw12.size; clear hb12
        go_wp2_with fail
        refine (equal_yes _ _ _ _ _ _ _ _ _ _ _ hp hr hsm rfl).mono ?_
        rintro e w13 ⟨rfl, hb13⟩
        have hw13 : Below w.heap.size w w13 := Below.trans (by repeat (first | exact Below.refl _ _ | assumption | refine Below.drew ?_ | refine below_drewN ?_ _ | refine Below.alloc ?_ (by first | omega | (simp; omega) | simp) _)) (hb13.mono (by first | omega | (simp; omega) | simp)); have hzw13 := hw13.size; clear hb13
        go_wp2
        go_ret
        exact ⟨rfl, hw13⟩
      · have hne : (mergeE b d != 0) = true := by simpa using hbd
        rw [hxd]
        clear hxd
        go_wp2
        go_ret
        exact ⟨rfl, hw11⟩
    · have hne : (mergeE (mergeV a b) d != 0) = true := by simpa using hxd
      go_wp2
      go_ret
      exact ⟨rfl, hw11⟩
  · refine (merge_no _ _ _ _ _ _ a b w.heap.size w.heap.size _ (ha.below hw2) (hb.below hw2) hzw2 hzw2 hab).mono ?_
    rintro e w3 ⟨X, c3, rfl, hb3⟩
    have hw3 : Below w.heap.size w w3 := Below.trans (by repeat (first | exact Below.refl _ _ | assumption | refine Below.drew ?_ | refine below_drewN ?_ _ | refine Below.alloc ?_ (by first | omega | (simp; omega) | simp) _)) (hb3.mono (by first | omega | (simp; omega) | simp)); have hzw3 := hw3.size; clear hb3
    have hne : (mergeE a b != 0) = true := by simpa using hab
    go_wp2
    go_ret
    exact ⟨rfl, hw3⟩
end Go.Proofs.Ytkoenjnjkapfmaa
