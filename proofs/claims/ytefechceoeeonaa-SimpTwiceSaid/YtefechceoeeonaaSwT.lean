/- chaffkeep.plain: is nothing left in it that must have been made simpler? -/
import Derived.Test.YtefechceoeeonaaSiS
import Derived.Test.YtefechceoeeonaaQSpg
import Derived.Test.YtefechceoeeonaaWhA
import Derived.Deep.DeepCutAuto
namespace Go.Proofs.Ytefechceoeeonaa
open Go.RowKit

theorem plnEs_spec (k : Int) : ∀ {l : List Ex}, plnEs k l = true → ∀ x ∈ l, plnE x = true ∧ ¬ (k = 5 ∧ x.kd = 1) ∧ ¬ ((k = 10 ∨ k = 11) ∧ (x.kd = 10 ∨ x.kd = 11)) ∧ ¬ (k = 9 ∧ (x.kd = 9 ∨ x.kd = 7 ∨ x.kd = 8))
  | [], _, x, hx => by cases hx
  | y :: ys, h, x, hx => by
    rw [plnEs] at h
    simp only [Bool.and_eq_true] at h
    obtain ⟨⟨⟨⟨h1, h2⟩, h3⟩, h4⟩, h5⟩ := h
    rcases List.mem_cons.1 hx with rfl | hx
    · simp at h2 h3 h4
      exact ⟨h1, by omega, by omega, by omega⟩
    · exact plnEs_spec k h5 x hx
set_option maxRecDepth 100000 in
set_option maxHeartbeats 8000000 in
theorem plain_any (e : Ex) : plnE e = true → ∀ (cs : List Value) (w : World), ExIs w w.heap.size e cs → Calls Try.prog 22 #[.agg cs.toArray] w fun r w' => r = .returned (.bool true) ∧ Below w.heap.size w w' := by
  refine Ex.ind (P := fun e => plnE e = true → ∀ (cs : List Value) (w : World), ExIs w w.heap.size e cs → Calls Try.prog 22 #[.agg cs.toArray] w fun r w' => r = .returned (.bool true) ∧ Below w.heap.size w w') ?_ e
  intro k a b c d t ks ih hp cs w hE
  obtain ⟨htl, A, cp, rfl, hkc, hcm, hnil⟩ := hE.shape
  rw [plnE] at hp
  replace hp := plnEs_spec k hp
  have hcall : ∀ (j : Nat) (k' a' b' c' d' : Int) (t' : ByteArray) (ks' : List Ex) (A' : Option Addr) (cp' : Nat) (W : World), Below w.heap.size w W → ks[j]? = some (.mk k' a' b' c' d' t' ks') → ExIs w w.heap.size (.mk k' a' b' c' d' t' ks') (exCells k' a' b' c' d' t' A' ks'.length cp') →
      Calls Try.prog 22 #[.agg #[.int .i64 k', .int .u64 a', .int .u64 b', .int .u64 c', .int .u64 d', .string t', .slice A' ks'.length cp']] W fun r w' => r = .returned (.bool true) ∧ Below W.heap.size W w' := fun j k' a' b' c' d' t' ks' A' cp' W hW hej hx =>
    ih _ (List.mem_of_getElem? hej) (hp _ (List.mem_of_getElem? hej)).1 _ W (hx.grow hW)
  have HC := Lib.hid hcall
  have HE := Lib.hid hE
  have HP := Lib.hid hp
  clear hcall hE hp ih
  unfold exCells
  unfold maxLen at hcm
  go_enter Try.func22, Try.ntmps22
  go_wp2
  go_loopw [9] (fun i wr => ∃ j : Nat, j ≤ ks.length ∧ i = .int .i64 j ∧ Below w.heap.size w wr ∧ Blk wr w.heap.size 38 #[.int .i64 k, .int .u64 a, .int .u64 b, .int .u64 c, .int .u64 d, .string t, .slice A ks.length cp]) (fun i _ => ks.length - (intOf i).toNat)
  case atStart => exact ⟨0, by omega, rfl, (by repeat (first | exact Below.refl _ _ | assumption | refine Below.drew ?_ | refine below_drewN ?_ _ | refine Below.alloc ?_ (by first | omega | (simp; omega) | simp) _ | refine Below.setCell ?_ (by first | omega | (simp; omega) | simp) _)), blk_at rfl⟩
  case round =>
    obtain ⟨j, hj, rfl, hwr, hbx⟩ := hrel
    have hzr := hwr.size
    by_cases hjn : j < ks.length
    · obtain ⟨ad, k', a', b', c', d', t', ks', A', cp', rfl, hab, hej, hx, hS⟩ := HE.out.kid hjn
      have hk := fun (q : Addr) (hq : q.block = (ad.add (j * 7)).block) => hwr.cell (p := q) (by rw [hq, add_block]; omega)
      have y0 := (hk _ rfl).trans hS.c0
      have y1 := (hk ⟨_, _, none⟩ rfl).trans hS.c1
      have y2 := (hk ⟨_, _, none⟩ rfl).trans hS.c2
      have y3 := (hk ⟨_, _, none⟩ rfl).trans hS.c3
      have y4 := (hk ⟨_, _, none⟩ rfl).trans hS.c4
      have y5 := (hk ⟨_, _, none⟩ rfl).trans hS.c5
      have y6 := (hk ⟨_, _, none⟩ rfl).trans hS.c6
      have had1 : ad.block < wr.heap.size := by omega
      have hjl : (j : Int) < (ks.length : Int) := by omega
      obtain ⟨-, p1, p2, p3⟩ := HP.out _ (List.mem_of_getElem? hej)
      simp only [Ex.kd] at p1 p2 p3
      have hc1 := fun W hW => HC.out j k' a' b' c' d' t' ks' A' cp' W hW hej hx
      have HC1 := Lib.hid hc1
      obtain ⟨lk, hlk⟩ : ∃ lk, decide (k' = 10 ∨ k' = 11) = lk := ⟨_, rfl⟩
      clear hk hS hej hx hc1
      go_upto_region 4 with fail
      have hbx2 := hbx.alloc (.cells #[.int .i64 k', .int .u64 a', .int .u64 b', .int .u64 c', .int .u64 d', .string t', .slice A' ks'.length cp'] 38)
      have hkb : Blk (wr.alloc (.cells #[.int .i64 k', .int .u64 a', .int .u64 b', .int .u64 c', .int .u64 d', .string t', .slice A' ks'.length cp'] 38)) wr.heap.size 38 #[.int .i64 k', .int .u64 a', .int .u64 b', .int .u64 c', .int .u64 d', .string t', .slice A' ks'.length cp'] := blk_at rfl
      have hw2 := hwr.alloc hzr (.cells #[.int .i64 k', .int .u64 a', .int .u64 b', .int .u64 c', .int .u64 d', .string t', .slice A' ks'.length cp'] 38)
      clear y0 y1 y2 y3 y4 y5 y6 had1 hbx hwr
      generalize (wr.alloc (.cells #[.int .i64 k', .int .u64 a', .int .u64 b', .int .u64 c', .int .u64 d', .string t', .slice A' ks'.length cp'] 38)) = w2 at hbx2 hkb hw2 ⊢
      generalize wr.heap.size = kb at hkb ⊢
      have c0 : w2.cell? ⟨kb, 0, none⟩ = some (.int .i64 k') := hkb.cell 0
      go_cut [5] (fun s5 wx => s5 = .bool lk ∧ w2 = wx)
      case first =>
        by_cases h10 : k' = 10
        · have hl : lk = true := by rw [← hlk, h10]; rfl
          have b10 : (k' == 10) = true := by rw [h10]; rfl
          subst hl
          clear hlk h10 p1 p2 p3
          go_wp2_with fail
          go_meet
          exact ⟨rfl, rfl⟩
        · have b10 : (k' == 10) = false := by rw [beq_eq_false_iff_ne]; exact h10
          have hl : lk = (k' == 11) := by rw [← hlk]; simp only [h10, false_or]; rfl
          subst hl
          clear hlk h10 p1 p2 p3
          go_wp2_with fail
          go_meet
          exact ⟨rfl, rfl⟩
      case rest =>
      obtain ⟨rfl, rfl⟩ := hcut
      clear c0
      have hk5 : k = 5 ∨ k = 9 ∨ k = 10 ∨ k = 11 ∨ ¬ (k = 5 ∨ k = 9 ∨ k = 10 ∨ k = 11) := by omega
      rcases hk5 with rfl | rfl | rfl | rfl | h0
      · have n1 : (k' == 1) = false := by rw [beq_eq_false_iff_ne]; omega
        clear p1 p2 p3 hlk
        have r0 : w2.cell? ⟨kb, 0, none⟩ = some (.int .i64 k') := hkb.cell 0; have r1 : w2.cell? ⟨kb, 1, none⟩ = some (.int .u64 a') := hkb.cell 1; have r2 : w2.cell? ⟨kb, 2, none⟩ = some (.int .u64 b') := hkb.cell 2; have r3 : w2.cell? ⟨kb, 3, none⟩ = some (.int .u64 c') := hkb.cell 3; have r4 : w2.cell? ⟨kb, 4, none⟩ = some (.int .u64 d') := hkb.cell 4; have r5 : w2.cell? ⟨kb, 5, none⟩ = some (.string t') := hkb.cell 5; have r6 : w2.cell? ⟨kb, 6, none⟩ = some (.slice A' ks'.length cp') := hkb.cell 6
        go_wp2_with fail
        refine (HC1.out _ hw2).mono ?_
        rintro e wn ⟨rfl, hbn⟩
        have hkn := hkb.below hbn hkb.lt
        have hbn2 := hbx2.below hbn hbx2.lt
        have hwn := hw2.trans (hbn.mono hw2.size)
        have c0 : wn.cell? ⟨kb, 0, none⟩ = some (.int .i64 k') := hkn.cell 0
        have e0 : wn.cell? ⟨w.heap.size, 0, none⟩ = some (.int .i64 5) := hbn2.cell 0
        clear hbn hkb hbx2 hw2 r0 r1 r2 r3 r4 r5 r6 hkn
        go_wp2
        go_roundw
        case rel => exact ⟨j + 1, by omega, by go_num, hwn, hbn2⟩
        case measure => simp [intOf]; omega
      · have n9 : (k' == 9) = false := by rw [beq_eq_false_iff_ne]; omega
        have n7 : (k' == 7) = false := by rw [beq_eq_false_iff_ne]; omega
        have n8 : (k' == 8) = false := by rw [beq_eq_false_iff_ne]; omega
        clear p1 p2 p3 hlk
        have r0 : w2.cell? ⟨kb, 0, none⟩ = some (.int .i64 k') := hkb.cell 0; have r1 : w2.cell? ⟨kb, 1, none⟩ = some (.int .u64 a') := hkb.cell 1; have r2 : w2.cell? ⟨kb, 2, none⟩ = some (.int .u64 b') := hkb.cell 2; have r3 : w2.cell? ⟨kb, 3, none⟩ = some (.int .u64 c') := hkb.cell 3; have r4 : w2.cell? ⟨kb, 4, none⟩ = some (.int .u64 d') := hkb.cell 4; have r5 : w2.cell? ⟨kb, 5, none⟩ = some (.string t') := hkb.cell 5; have r6 : w2.cell? ⟨kb, 6, none⟩ = some (.slice A' ks'.length cp') := hkb.cell 6
        go_wp2_with fail
        refine (HC1.out _ hw2).mono ?_
        rintro e wn ⟨rfl, hbn⟩
        have hkn := hkb.below hbn hkb.lt
        have hbn2 := hbx2.below hbn hbx2.lt
        have hwn := hw2.trans (hbn.mono hw2.size)
        have c0 : wn.cell? ⟨kb, 0, none⟩ = some (.int .i64 k') := hkn.cell 0
        have e0 : wn.cell? ⟨w.heap.size, 0, none⟩ = some (.int .i64 9) := hbn2.cell 0
        clear hbn hkb hbx2 hw2 r0 r1 r2 r3 r4 r5 r6 hkn
        go_wp2
        go_roundw
        case rel => exact ⟨j + 1, by omega, by go_num, hwn, hbn2⟩
        case measure => simp [intOf]; omega
      · have hl : lk = false := by rw [← hlk]; simp; omega
        subst hl
        clear p1 p2 p3 hlk
        have r0 : w2.cell? ⟨kb, 0, none⟩ = some (.int .i64 k') := hkb.cell 0; have r1 : w2.cell? ⟨kb, 1, none⟩ = some (.int .u64 a') := hkb.cell 1; have r2 : w2.cell? ⟨kb, 2, none⟩ = some (.int .u64 b') := hkb.cell 2; have r3 : w2.cell? ⟨kb, 3, none⟩ = some (.int .u64 c') := hkb.cell 3; have r4 : w2.cell? ⟨kb, 4, none⟩ = some (.int .u64 d') := hkb.cell 4; have r5 : w2.cell? ⟨kb, 5, none⟩ = some (.string t') := hkb.cell 5; have r6 : w2.cell? ⟨kb, 6, none⟩ = some (.slice A' ks'.length cp') := hkb.cell 6
        go_wp2_with fail
        refine (HC1.out _ hw2).mono ?_
        rintro e wn ⟨rfl, hbn⟩
        have hkn := hkb.below hbn hkb.lt
        have hbn2 := hbx2.below hbn hbx2.lt
        have hwn := hw2.trans (hbn.mono hw2.size)
        have c0 : wn.cell? ⟨kb, 0, none⟩ = some (.int .i64 k') := hkn.cell 0
        have e0 : wn.cell? ⟨w.heap.size, 0, none⟩ = some (.int .i64 10) := hbn2.cell 0
        clear hbn hkb hbx2 hw2 r0 r1 r2 r3 r4 r5 r6 hkn
        go_wp2
        go_roundw
        case rel => exact ⟨j + 1, by omega, by go_num, hwn, hbn2⟩
        case measure => simp [intOf]; omega
      · have hl : lk = false := by rw [← hlk]; simp; omega
        subst hl
        clear p1 p2 p3 hlk
        have r0 : w2.cell? ⟨kb, 0, none⟩ = some (.int .i64 k') := hkb.cell 0; have r1 : w2.cell? ⟨kb, 1, none⟩ = some (.int .u64 a') := hkb.cell 1; have r2 : w2.cell? ⟨kb, 2, none⟩ = some (.int .u64 b') := hkb.cell 2; have r3 : w2.cell? ⟨kb, 3, none⟩ = some (.int .u64 c') := hkb.cell 3; have r4 : w2.cell? ⟨kb, 4, none⟩ = some (.int .u64 d') := hkb.cell 4; have r5 : w2.cell? ⟨kb, 5, none⟩ = some (.string t') := hkb.cell 5; have r6 : w2.cell? ⟨kb, 6, none⟩ = some (.slice A' ks'.length cp') := hkb.cell 6
        go_wp2_with fail
        refine (HC1.out _ hw2).mono ?_
        rintro e wn ⟨rfl, hbn⟩
        have hkn := hkb.below hbn hkb.lt
        have hbn2 := hbx2.below hbn hbx2.lt
        have hwn := hw2.trans (hbn.mono hw2.size)
        have c0 : wn.cell? ⟨kb, 0, none⟩ = some (.int .i64 k') := hkn.cell 0
        have e0 : wn.cell? ⟨w.heap.size, 0, none⟩ = some (.int .i64 11) := hbn2.cell 0
        clear hbn hkb hbx2 hw2 r0 r1 r2 r3 r4 r5 r6 hkn
        go_wp2
        go_roundw
        case rel => exact ⟨j + 1, by omega, by go_num, hwn, hbn2⟩
        case measure => simp [intOf]; omega
      · have m5 : (k == 5) = false := by rw [beq_eq_false_iff_ne]; omega
        have m9 : (k == 9) = false := by rw [beq_eq_false_iff_ne]; omega
        have m10 : (k == 10) = false := by rw [beq_eq_false_iff_ne]; omega
        have m11 : (k == 11) = false := by rw [beq_eq_false_iff_ne]; omega
        clear p1 p2 p3 hlk h0
        have r0 : w2.cell? ⟨kb, 0, none⟩ = some (.int .i64 k') := hkb.cell 0; have r1 : w2.cell? ⟨kb, 1, none⟩ = some (.int .u64 a') := hkb.cell 1; have r2 : w2.cell? ⟨kb, 2, none⟩ = some (.int .u64 b') := hkb.cell 2; have r3 : w2.cell? ⟨kb, 3, none⟩ = some (.int .u64 c') := hkb.cell 3; have r4 : w2.cell? ⟨kb, 4, none⟩ = some (.int .u64 d') := hkb.cell 4; have r5 : w2.cell? ⟨kb, 5, none⟩ = some (.string t') := hkb.cell 5; have r6 : w2.cell? ⟨kb, 6, none⟩ = some (.slice A' ks'.length cp') := hkb.cell 6
        go_wp2_with fail
        refine (HC1.out _ hw2).mono ?_
        rintro e wn ⟨rfl, hbn⟩
        have hkn := hkb.below hbn hkb.lt
        have hbn2 := hbx2.below hbn hbx2.lt
        have hwn := hw2.trans (hbn.mono hw2.size)
        have c0 : wn.cell? ⟨kb, 0, none⟩ = some (.int .i64 k') := hkn.cell 0
        have e0 : wn.cell? ⟨w.heap.size, 0, none⟩ = some (.int .i64 k) := hbn2.cell 0
        clear hbn hkb hbx2 hw2 r0 r1 r2 r3 r4 r5 r6 hkn
        go_wp2
        go_roundw
        case rel => exact ⟨j + 1, by omega, by go_num, hwn, hbn2⟩
        case measure => simp [intOf]; omega
    · obtain rfl : j = ks.length := by omega
      go_wp2
      go_ret
      exact ⟨rfl, hwr⟩
end Go.Proofs.Ytefechceoeeonaa
