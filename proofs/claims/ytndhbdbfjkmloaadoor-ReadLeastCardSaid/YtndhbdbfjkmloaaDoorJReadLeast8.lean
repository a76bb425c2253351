/- What quote.Unclass answers where it can't be read. -/
import Derived.Test.YtndhbdbfjkmloaaDoorJReadLeast4
namespace Go.Proofs.YtndhbdbfjkmloaaDoor
open Go.RowKit

set_option maxRecDepth 100000 in
set_option maxHeartbeats 4000000 in
theorem unclass_no1 (s : ByteArray) (w : World) (hs : s.size ≤ 4611686018427387904) (h1s : 1 < s.size) (hq : bt s.data.toList 0 = 91) (hq1 : bt s.data.toList 1 ≠ 94)
    (i0 : Nat) (hi0 : i0 = 1) (F : Nat) (hF : s.size < F) (ho : unc F (s.data.toList.drop i0) [0, 0, 0, 0] = none) :
    Calls Tryd.prog 116 #[.string s] w fun e w' => e = .returned (.tuple #[.agg #[.int .u64 0, .int .u64 0, .int .u64 0, .int .u64 0], .int .i64 0, .int .i64 4]) ∧ Below w.heap.size w w' := by
  have HL := Lib.hid (size_list s)
  have h0 : 0 < s.size := by omega
  have hb0 := bt_of h0
  rw [hq] at hb0
  have HO2 : Hid (unc F (s.data.toList.drop i0) [0, 0, 0, 0] = none) := ho
  clear hq ho
  have hne : (s.toList.isEmpty) = false := by
    rw [ByteArray.toList_eq]
    cases h : s.data.toList with
    | nil => have := HL.out; rw [h] at this; simp at this; omega
    | cons => rfl
  have hb1 := bt_of h1s
  have h94 : (((bt s.data.toList 1 : Nat) : Int) == 94) = false := by
    rw [beq_eq_false_iff_ne]; omega
  have HI := Lib.hid hi0
  clear hi0 hq1
  have hi02 : i0 ≤ s.size ∧ i0 ≤ 2 ∧ 1 ≤ i0 := by have := HI.out; omega
  generalize bt s.data.toList 1 = b1 at hb1 h94
  go_enter Tryd.func116, Tryd.ntmps116
  go_wp2_with fail
  go_loopw [6] (fun i wr => ∃ (k f : Nat) (acc : List Nat), 1 ≤ k ∧ k ≤ s.size ∧ s.size - k < f ∧ i = .int .i64 k ∧ Hid (unc f (s.data.toList.drop k) acc = none) ∧ acc.length = 4 ∧ Words acc ∧
    Blk wr (w.heap.size + 1) 24 #[.int .u64 (acc.getD 0 0 : Nat), .int .u64 (acc.getD 1 0 : Nat), .int .u64 (acc.getD 2 0 : Nat), .int .u64 (acc.getD 3 0 : Nat)] ∧ Blk wr w.heap.size 24 #[.int .u64 0, .int .u64 0, .int .u64 0, .int .u64 0] ∧ Below w.heap.size w wr) (fun i _ => s.size - (intOf i).toNat)
  case atStart => exact ⟨i0, F, [0, 0, 0, 0], hi02.2.2, hi02.1, by omega, (by rw [HI.out]; rfl), HO2, rfl, Words.zero, blk_at (by simp), (blk_at rfl).alloc _, (by repeat (first | exact Below.refl _ _ | assumption | refine Below.drew ?_ | refine below_drewN ?_ _ | refine Below.alloc ?_ (by first | omega | (simp; omega) | simp) _ | refine Below.setCell ?_ (by first | omega | (simp; omega) | simp) _))⟩
  case round =>
    obtain ⟨k, f, acc, hk1, hk, hf, rfl, hun0, haL, haW, hB, hB0, hbw⟩ := hrel
    have hun := hun0.out
    have HAL := Lib.hid haL
    have HAW := Lib.hid haW
    clear haL haW hun0
    obtain ⟨f', rfl⟩ : ∃ f', f = f' + 1 := ⟨f - 1, by omega⟩
    by_cases hkn : k < s.size
    · have hne' : s.data.toList.drop k ≠ [] := by
        intro h
        have := congrArg List.length h
        rw [List.length_drop, HL.out, List.length_nil] at this
        omega
      have hbk := bt_of hkn
      have hk0 : (0 : Int) ≤ (k : Int) := by omega
      have hk1' : (k : Int) < (s.size : Int) := by omega
      obtain ⟨a0, ha0⟩ : ∃ a, acc.getD 0 0 = a := ⟨_, rfl⟩
      obtain ⟨a1, ha1⟩ : ∃ a, acc.getD 1 0 = a := ⟨_, rfl⟩
      obtain ⟨a2, ha2⟩ : ∃ a, acc.getD 2 0 = a := ⟨_, rfl⟩
      obtain ⟨a3, ha3⟩ : ∃ a, acc.getD 3 0 = a := ⟨_, rfl⟩
      rw [ha0, ha1, ha2, ha3] at hB
      have HA : Hid (acc.getD 0 0 = a0 ∧ acc.getD 1 0 = a1 ∧ acc.getD 2 0 = a2 ∧ acc.getD 3 0 = a3) := ⟨ha0, ha1, ha2, ha3⟩
      clear ha0 ha1 ha2 ha3
      have z0 : wr.cell? ⟨w.heap.size + 1, 0, none⟩ = some (.int .u64 a0) := hB.cell 0
      have z1 : wr.cell? ⟨w.heap.size + 1, 1, none⟩ = some (.int .u64 a1) := hB.cell 1
      have z2 : wr.cell? ⟨w.heap.size + 1, 2, none⟩ = some (.int .u64 a2) := hB.cell 2
      have z3 : wr.cell? ⟨w.heap.size + 1, 3, none⟩ = some (.int .u64 a3) := hB.cell 3
      by_cases hbq : bt s.data.toList k = 93
      · rw [unc_end f' acc hne' (by rw [bt_drop']; exact hbq)] at hun
        cases hun
      · have hbq0 : bt (s.data.toList.drop k) 0 ≠ 93 := by rw [bt_drop', Nat.add_zero]; exact hbq
        generalize hnn : nextN sgC (s.data.toList.drop k) = nx at hun
        obtain ⟨b, n⟩ := nx
        have hnb := nextN_bd sgC _ hne'
        rw [hnn] at hnb
        obtain ⟨hn1, hn2, hn3⟩ := hnb
        simp only at hn1 hn2 hn3
        rw [List.length_drop, HL.out] at hn1
        by_cases hn0 : n = 0
        · subst hn0
          have HNN := Lib.hid hnn
          have hbne : (((bt s.data.toList k : Nat) : Int) == 93) = false := by rw [beq_eq_false_iff_ne]; omega
          clear hun hnn hbq hbq0 hne'
          go_wp2_with fail
          refine (nextq_any (s.extract k s.size) ⟨#[91, 93, 45, 94, 92]⟩ _ ?_).mono ?_
          · have := size_list (s.extract k s.size)
            rw [Lib.extract_to_end, List.length_drop, HL.out] at this
            omega
          rw [Lib.extract_to_end]
          unfold NextQ
          rw [show (⟨#[91, 93, 45, 94, 92]⟩ : ByteArray).data.toList = sgC from rfl, HNN.out]
          rintro e w2 ⟨rfl, d, rfl⟩
          replace hB := hB.drewN d
          replace hB0 := hB0.drewN d
          replace hbw := below_drewN hbw d
          clear z0 z1 z2 z3
          generalize wr.drewN d = wz at hB hB0 hbw ⊢
          have z0 : wz.cell? ⟨w.heap.size + 1, 0, none⟩ = some (.int .u64 a0) := hB.cell 0
          have z1 : wz.cell? ⟨w.heap.size + 1, 1, none⟩ = some (.int .u64 a1) := hB.cell 1
          have z2 : wz.cell? ⟨w.heap.size + 1, 2, none⟩ = some (.int .u64 a2) := hB.cell 2
          have z3 : wz.cell? ⟨w.heap.size + 1, 3, none⟩ = some (.int .u64 a3) := hB.cell 3
          have n0 : wz.cell? ⟨w.heap.size, 0, none⟩ = some (.int .u64 0) := hB0.cell 0
          have n1 : wz.cell? ⟨w.heap.size, 1, none⟩ = some (.int .u64 0) := hB0.cell 1
          have n2 : wz.cell? ⟨w.heap.size, 2, none⟩ = some (.int .u64 0) := hB0.cell 2
          have n3 : wz.cell? ⟨w.heap.size, 3, none⟩ = some (.int .u64 0) := hB0.cell 3
          have g0 := hB0.frozen 0
          have g1 := hB0.frozen 1
          have g2 := hB0.frozen 2
          have g3 := hB0.frozen 3
          go_wp2_with fail
          have hBF : Blk ((((wz.setCell ⟨w.heap.size, 0, none⟩ (.int .u64 0)).setCell ⟨w.heap.size, 1, none⟩ (.int .u64 0)).setCell ⟨w.heap.size, 2, none⟩ (.int .u64 0)).setCell ⟨w.heap.size, 3, none⟩ (.int .u64 0)) w.heap.size 24 #[.int .u64 0, .int .u64 0, .int .u64 0, .int .u64 0] := (((hB0.set_ 0 _).set_ 1 _).set_ 2 _).set_ 3 _
          have hbF : Below w.heap.size w ((((wz.setCell ⟨w.heap.size, 0, none⟩ (.int .u64 0)).setCell ⟨w.heap.size, 1, none⟩ (.int .u64 0)).setCell ⟨w.heap.size, 2, none⟩ (.int .u64 0)).setCell ⟨w.heap.size, 3, none⟩ (.int .u64 0)) := ((((hbw.setCell (Nat.le_refl _) _).setCell (Nat.le_refl _) _).setCell (Nat.le_refl _) _).setCell (Nat.le_refl _) _)
          generalize ((((wz.setCell ⟨w.heap.size, 0, none⟩ (.int .u64 0)).setCell ⟨w.heap.size, 1, none⟩ (.int .u64 0)).setCell ⟨w.heap.size, 2, none⟩ (.int .u64 0)).setCell ⟨w.heap.size, 3, none⟩ (.int .u64 0)) = W9 at hBF hbF ⊢
          have q0 : W9.cell? ⟨w.heap.size, 0, none⟩ = some (.int .u64 0) := hBF.cell 0
          have q1 : W9.cell? ⟨w.heap.size, 1, none⟩ = some (.int .u64 0) := hBF.cell 1
          have q2 : W9.cell? ⟨w.heap.size, 2, none⟩ = some (.int .u64 0) := hBF.cell 2
          have q3 : W9.cell? ⟨w.heap.size, 3, none⟩ = some (.int .u64 0) := hBF.cell 3
          refine bodyPost_ret (v := .tuple #[.agg #[.int .u64 0, .int .u64 0, .int .u64 0, .int .u64 0], .int .i64 0, .int .i64 4]) (by simp [results, Tryd.results116, go_sem, q0, q1, q2, q3]) rfl ⟨rfl, hbF⟩
        rw [unc_step f' acc hne' hbq0 hnn hn0] at hun
        simp only [List.drop_drop, List.length_drop, HL.out, bt_drop', Nat.add_zero] at hun
        have HNN := Lib.hid hnn
        have hbne : (((bt s.data.toList k : Nat) : Int) == 93) = false := by rw [beq_eq_false_iff_ne]; omega
        have hn00 : ((n : Int) == 0) = false := by rw [beq_eq_false_iff_ne]; omega
        have hwb : IntKind.i64.wrap (b : Int) = (b : Int) := IntWalk.i64_in _ (by omega)
        clear hnn hbq hbq0 hne'
        by_cases hc : 1 < s.size - (k + n) ∧ bt s.data.toList (k + n) = 45 ∧ bt s.data.toList (k + n + 1) ≠ 93
        · rw [if_pos hc] at hun
          obtain ⟨c1, c2, c3⟩ := hc
          have hne2 : s.data.toList.drop (k + (n + 1)) ≠ [] := by
            intro h
            have := congrArg List.length h
            rw [List.length_drop, HL.out, List.length_nil] at this
            omega
          generalize hnn : nextN sgC (s.data.toList.drop (k + (n + 1))) = nx at hun
          obtain ⟨h, m⟩ := nx
          have hnb := nextN_bd sgC _ hne2
          rw [hnn] at hnb
          obtain ⟨hm1, hm2, hm3⟩ := hnb
          simp only at hm1 hm2 hm3 hun
          rw [List.length_drop, HL.out] at hm1
          by_cases hmb : m = 0 ∨ h < b
          · obtain ⟨K, hK⟩ : ∃ K, K = k + n := ⟨_, rfl⟩
            obtain ⟨K1, hK1⟩ : ∃ K1, K1 = K + 1 := ⟨_, rfl⟩
            have HNN2 : Hid (nextN sgC (s.data.toList.drop K1) = (h, m)) := by
              show _ = _
              rw [show K1 = k + (n + 1) from by omega]
              exact hnn
            rw [show k + n + 1 = K1 from by omega] at c3
            rw [← hK] at c1 c2
            have hkK : (k : Int) + (n : Int) = (K : Int) := by omega
            have hkK1 : (K : Int) + 1 = (K1 : Int) := by omega
            have hKl : K < s.size := by omega
            have hK1l : K1 < s.size := by omega
            have hbK := bt_of hKl
            have hbK1 := bt_of hK1l
            rw [c2] at hbK
            have hbK2 : (((bt s.data.toList K1 : Nat) : Int) != 93) = true := by rw [bne_iff_ne]; omega
            have hKi : (K1 : Int) < (s.size : Int) := by omega
            have hK0 : (0 : Int) ≤ (K : Int) := by omega
            have hK10 : (0 : Int) ≤ (K1 : Int) := by omega
            have hKs : (K : Int) < (s.size : Int) := by omega
            clear hun hnn hne2 c1 c2 c3 hK hK1
            by_cases hm0 : m = 0
            · subst hm0
              clear hmb
              go_wp2_with fail
              refine (nextq_any (s.extract k s.size) ⟨#[91, 93, 45, 94, 92]⟩ _ ?_).mono ?_
              · have := size_list (s.extract k s.size)
                rw [Lib.extract_to_end, List.length_drop, HL.out] at this
                omega
              rw [Lib.extract_to_end]
              unfold NextQ
              rw [show (⟨#[91, 93, 45, 94, 92]⟩ : ByteArray).data.toList = sgC from rfl, HNN.out]
              rintro e w2 ⟨rfl, d, rfl⟩
              replace hB := hB.drewN d
              replace hB0 := hB0.drewN d
              replace hbw := below_drewN hbw d
              clear z0 z1 z2 z3
              generalize wr.drewN d = wz at hB hB0 hbw ⊢
              have z0 : wz.cell? ⟨w.heap.size + 1, 0, none⟩ = some (.int .u64 a0) := hB.cell 0
              have z1 : wz.cell? ⟨w.heap.size + 1, 1, none⟩ = some (.int .u64 a1) := hB.cell 1
              have z2 : wz.cell? ⟨w.heap.size + 1, 2, none⟩ = some (.int .u64 a2) := hB.cell 2
              have z3 : wz.cell? ⟨w.heap.size + 1, 3, none⟩ = some (.int .u64 a3) := hB.cell 3
              go_wp2_with fail
              refine (nextq_any (s.extract K1 s.size) ⟨#[91, 93, 45, 94, 92]⟩ _ ?_).mono ?_
              · have := size_list (s.extract K1 s.size)
                rw [Lib.extract_to_end, List.length_drop, HL.out] at this
                omega
              rw [Lib.extract_to_end]
              unfold NextQ
              rw [show (⟨#[91, 93, 45, 94, 92]⟩ : ByteArray).data.toList = sgC from rfl, HNN2.out]
              rintro e w2 ⟨rfl, d, rfl⟩
              replace hB := hB.drewN d
              replace hB0 := hB0.drewN d
              replace hbw := below_drewN hbw d
              clear z0 z1 z2 z3
              generalize wz.drewN d = wy at hB hB0 hbw ⊢
              have z0 : wy.cell? ⟨w.heap.size + 1, 0, none⟩ = some (.int .u64 a0) := hB.cell 0
              have z1 : wy.cell? ⟨w.heap.size + 1, 1, none⟩ = some (.int .u64 a1) := hB.cell 1
              have z2 : wy.cell? ⟨w.heap.size + 1, 2, none⟩ = some (.int .u64 a2) := hB.cell 2
              have z3 : wy.cell? ⟨w.heap.size + 1, 3, none⟩ = some (.int .u64 a3) := hB.cell 3
              have n0 : wy.cell? ⟨w.heap.size, 0, none⟩ = some (.int .u64 0) := hB0.cell 0
              have n1 : wy.cell? ⟨w.heap.size, 1, none⟩ = some (.int .u64 0) := hB0.cell 1
              have n2 : wy.cell? ⟨w.heap.size, 2, none⟩ = some (.int .u64 0) := hB0.cell 2
              have n3 : wy.cell? ⟨w.heap.size, 3, none⟩ = some (.int .u64 0) := hB0.cell 3
              have g0 := hB0.frozen 0
              have g1 := hB0.frozen 1
              have g2 := hB0.frozen 2
              have g3 := hB0.frozen 3
              go_wp2_with fail
              have hBF : Blk ((((wy.setCell ⟨w.heap.size, 0, none⟩ (.int .u64 0)).setCell ⟨w.heap.size, 1, none⟩ (.int .u64 0)).setCell ⟨w.heap.size, 2, none⟩ (.int .u64 0)).setCell ⟨w.heap.size, 3, none⟩ (.int .u64 0)) w.heap.size 24 #[.int .u64 0, .int .u64 0, .int .u64 0, .int .u64 0] := (((hB0.set_ 0 _).set_ 1 _).set_ 2 _).set_ 3 _
              have hbF : Below w.heap.size w ((((wy.setCell ⟨w.heap.size, 0, none⟩ (.int .u64 0)).setCell ⟨w.heap.size, 1, none⟩ (.int .u64 0)).setCell ⟨w.heap.size, 2, none⟩ (.int .u64 0)).setCell ⟨w.heap.size, 3, none⟩ (.int .u64 0)) := ((((hbw.setCell (Nat.le_refl _) _).setCell (Nat.le_refl _) _).setCell (Nat.le_refl _) _).setCell (Nat.le_refl _) _)
              generalize ((((wy.setCell ⟨w.heap.size, 0, none⟩ (.int .u64 0)).setCell ⟨w.heap.size, 1, none⟩ (.int .u64 0)).setCell ⟨w.heap.size, 2, none⟩ (.int .u64 0)).setCell ⟨w.heap.size, 3, none⟩ (.int .u64 0)) = W9 at hBF hbF ⊢
              have q0 : W9.cell? ⟨w.heap.size, 0, none⟩ = some (.int .u64 0) := hBF.cell 0
              have q1 : W9.cell? ⟨w.heap.size, 1, none⟩ = some (.int .u64 0) := hBF.cell 1
              have q2 : W9.cell? ⟨w.heap.size, 2, none⟩ = some (.int .u64 0) := hBF.cell 2
              have q3 : W9.cell? ⟨w.heap.size, 3, none⟩ = some (.int .u64 0) := hBF.cell 3
              refine bodyPost_ret (v := .tuple #[.agg #[.int .u64 0, .int .u64 0, .int .u64 0, .int .u64 0], .int .i64 0, .int .i64 4]) (by simp [results, Tryd.results116, go_sem, q0, q1, q2, q3]) rfl ⟨rfl, hbF⟩
            · have hhb : (h : Int) < (b : Int) := by omega
              have hm00 : ((m : Int) == 0) = false := by rw [beq_eq_false_iff_ne]; omega
              clear hmb hm0
              go_wp2_with fail
              refine (nextq_any (s.extract k s.size) ⟨#[91, 93, 45, 94, 92]⟩ _ ?_).mono ?_
              · have := size_list (s.extract k s.size)
                rw [Lib.extract_to_end, List.length_drop, HL.out] at this
                omega
              rw [Lib.extract_to_end]
              unfold NextQ
              rw [show (⟨#[91, 93, 45, 94, 92]⟩ : ByteArray).data.toList = sgC from rfl, HNN.out]
              rintro e w2 ⟨rfl, d, rfl⟩
              replace hB := hB.drewN d
              replace hB0 := hB0.drewN d
              replace hbw := below_drewN hbw d
              clear z0 z1 z2 z3
              generalize wr.drewN d = wz at hB hB0 hbw ⊢
              have z0 : wz.cell? ⟨w.heap.size + 1, 0, none⟩ = some (.int .u64 a0) := hB.cell 0
              have z1 : wz.cell? ⟨w.heap.size + 1, 1, none⟩ = some (.int .u64 a1) := hB.cell 1
              have z2 : wz.cell? ⟨w.heap.size + 1, 2, none⟩ = some (.int .u64 a2) := hB.cell 2
              have z3 : wz.cell? ⟨w.heap.size + 1, 3, none⟩ = some (.int .u64 a3) := hB.cell 3
              go_wp2_with fail
              refine (nextq_any (s.extract K1 s.size) ⟨#[91, 93, 45, 94, 92]⟩ _ ?_).mono ?_
              · have := size_list (s.extract K1 s.size)
                rw [Lib.extract_to_end, List.length_drop, HL.out] at this
                omega
              rw [Lib.extract_to_end]
              unfold NextQ
              rw [show (⟨#[91, 93, 45, 94, 92]⟩ : ByteArray).data.toList = sgC from rfl, HNN2.out]
              rintro e w2 ⟨rfl, d, rfl⟩
              replace hB := hB.drewN d
              replace hB0 := hB0.drewN d
              replace hbw := below_drewN hbw d
              clear z0 z1 z2 z3
              generalize wz.drewN d = wy at hB hB0 hbw ⊢
              have z0 : wy.cell? ⟨w.heap.size + 1, 0, none⟩ = some (.int .u64 a0) := hB.cell 0
              have z1 : wy.cell? ⟨w.heap.size + 1, 1, none⟩ = some (.int .u64 a1) := hB.cell 1
              have z2 : wy.cell? ⟨w.heap.size + 1, 2, none⟩ = some (.int .u64 a2) := hB.cell 2
              have z3 : wy.cell? ⟨w.heap.size + 1, 3, none⟩ = some (.int .u64 a3) := hB.cell 3
              have n0 : wy.cell? ⟨w.heap.size, 0, none⟩ = some (.int .u64 0) := hB0.cell 0
              have n1 : wy.cell? ⟨w.heap.size, 1, none⟩ = some (.int .u64 0) := hB0.cell 1
              have n2 : wy.cell? ⟨w.heap.size, 2, none⟩ = some (.int .u64 0) := hB0.cell 2
              have n3 : wy.cell? ⟨w.heap.size, 3, none⟩ = some (.int .u64 0) := hB0.cell 3
              have g0 := hB0.frozen 0
              have g1 := hB0.frozen 1
              have g2 := hB0.frozen 2
              have g3 := hB0.frozen 3
              go_wp2_with fail
              have hBF : Blk ((((wy.setCell ⟨w.heap.size, 0, none⟩ (.int .u64 0)).setCell ⟨w.heap.size, 1, none⟩ (.int .u64 0)).setCell ⟨w.heap.size, 2, none⟩ (.int .u64 0)).setCell ⟨w.heap.size, 3, none⟩ (.int .u64 0)) w.heap.size 24 #[.int .u64 0, .int .u64 0, .int .u64 0, .int .u64 0] := (((hB0.set_ 0 _).set_ 1 _).set_ 2 _).set_ 3 _
              have hbF : Below w.heap.size w ((((wy.setCell ⟨w.heap.size, 0, none⟩ (.int .u64 0)).setCell ⟨w.heap.size, 1, none⟩ (.int .u64 0)).setCell ⟨w.heap.size, 2, none⟩ (.int .u64 0)).setCell ⟨w.heap.size, 3, none⟩ (.int .u64 0)) := ((((hbw.setCell (Nat.le_refl _) _).setCell (Nat.le_refl _) _).setCell (Nat.le_refl _) _).setCell (Nat.le_refl _) _)
              generalize ((((wy.setCell ⟨w.heap.size, 0, none⟩ (.int .u64 0)).setCell ⟨w.heap.size, 1, none⟩ (.int .u64 0)).setCell ⟨w.heap.size, 2, none⟩ (.int .u64 0)).setCell ⟨w.heap.size, 3, none⟩ (.int .u64 0)) = W9 at hBF hbF ⊢
              have q0 : W9.cell? ⟨w.heap.size, 0, none⟩ = some (.int .u64 0) := hBF.cell 0
              have q1 : W9.cell? ⟨w.heap.size, 1, none⟩ = some (.int .u64 0) := hBF.cell 1
              have q2 : W9.cell? ⟨w.heap.size, 2, none⟩ = some (.int .u64 0) := hBF.cell 2
              have q3 : W9.cell? ⟨w.heap.size, 3, none⟩ = some (.int .u64 0) := hBF.cell 3
              refine bodyPost_ret (v := .tuple #[.agg #[.int .u64 0, .int .u64 0, .int .u64 0, .int .u64 0], .int .i64 0, .int .i64 4]) (by simp [results, Tryd.results116, go_sem, q0, q1, q2, q3]) rfl ⟨rfl, hbF⟩
          rw [if_neg hmb] at hun
          have hm0 : m ≠ 0 := fun e => hmb (.inl e)
          have hbh : b ≤ h := by
            rcases Nat.lt_or_ge h b with h' | h'
            · exact absurd (.inr h') hmb
            · exact h'
          have hu2 := Option.map_eq_none_iff.1 hun
          · obtain ⟨K, hK⟩ : ∃ K, K = k + n := ⟨_, rfl⟩
            obtain ⟨K1, hK1⟩ : ∃ K1, K1 = K + 1 := ⟨_, rfl⟩
            generalize hRR : rangeL b (h + 1 - b) = R at hu2
            have HRW : Hid (Words R) := by show Words R; rw [← hRR]; exact rangeL_words _ _
            have HRG : ∀ W, Calls Tryd.prog 56 #[.int .i64 b, .int .i64 h] W fun e w' => e = .returned (vals R) ∧ Below W.heap.size W w' := fun W => by
              have := range_w hbh hm2 W
              rw [hRR] at this
              exact this
            have HREL : Hid (unc f' (s.data.toList.drop (K1 + m)) (orW acc R) = none) := by
              show _ = _
              rw [show K1 + m = k + (n + 1 + m) from by omega, hu2]
            have HNN2 : Hid (nextN sgC (s.data.toList.drop K1) = (h, m)) := by
              show _ = _
              rw [show K1 = k + (n + 1) from by omega]
              exact hnn
            rw [show k + n + 1 = K1 from by omega] at c3
            rw [← hK] at c1 c2
            have hkK : (k : Int) + (n : Int) = (K : Int) := by omega
            have hkK1 : (K : Int) + 1 = (K1 : Int) := by omega
            have hKl : K < s.size := by omega
            have hK1l : K1 < s.size := by omega
            have hbK := bt_of hKl
            have hbK1 := bt_of hK1l
            rw [c2] at hbK
            have hbK2 : (((bt s.data.toList K1 : Nat) : Int) != 93) = true := by rw [bne_iff_ne]; omega
            have hKi : (K1 : Int) < (s.size : Int) := by omega
            have hK0 : (0 : Int) ≤ (K : Int) := by omega
            have hK10 : (0 : Int) ≤ (K1 : Int) := by omega
            have hKs : (K : Int) < (s.size : Int) := by omega
            have hm00 : ((m : Int) == 0) = false := by rw [beq_eq_false_iff_ne]; omega
            have hhl : ¬ (h : Int) < (b : Int) := by omega
            have hwh : IntKind.i64.wrap (h : Int) = (h : Int) := IntWalk.i64_in _ (by omega)
            have HKK : Hid (K1 = K + 1 ∧ K = k + n) := ⟨hK1, hK⟩
            clear hun hu2 hnn hRR hmb hne2 c1 c2 c3 hK hK1
            obtain ⟨r0, hr0⟩ : ∃ a, R.getD 0 0 = a := ⟨_, rfl⟩
            obtain ⟨r1, hr1⟩ : ∃ a, R.getD 1 0 = a := ⟨_, rfl⟩
            obtain ⟨r2, hr2⟩ : ∃ a, R.getD 2 0 = a := ⟨_, rfl⟩
            obtain ⟨r3, hr3⟩ : ∃ a, R.getD 3 0 = a := ⟨_, rfl⟩
            have HR : Hid (R.getD 0 0 = r0 ∧ R.getD 1 0 = r1 ∧ R.getD 2 0 = r2 ∧ R.getD 3 0 = r3) := ⟨hr0, hr1, hr2, hr3⟩
            have HJN : Hid (∀ W, Calls Tryd.prog 135 #[.agg #[.int .u64 a0, .int .u64 a1, .int .u64 a2, .int .u64 a3], .agg #[.int .u64 r0, .int .u64 r1, .int .u64 r2, .int .u64 r3]] W fun e w' => e = .returned (.agg #[.int .u64 ((a0 ||| r0 : Nat) : Int), .int .u64 ((a1 ||| r1 : Nat) : Int), .int .u64 ((a2 ||| r2 : Nat) : Int), .int .u64 ((a3 ||| r3 : Nat) : Int)]) ∧ Below W.heap.size W w') := fun W => by
              have := join_w HAW.out HRW.out W
              unfold vals orW at this
              simp only [List.getD_cons_zero, List.getD_cons_succ, HA.out.1, HA.out.2.1, HA.out.2.2.1, HA.out.2.2.2, hr0, hr1, hr2, hr3] at this
              exact this
            unfold vals at HRG
            rw [hr0, hr1, hr2, hr3] at HRG
            clear hr0 hr1 hr2 hr3
            replace HRG := Lib.hid HRG
            have hMb : K1 + m ≤ s.size := by have := HKK.out; omega
            have hMk : k < K1 + m := by have := HKK.out; omega
            go_wp2_with fail
            refine (nextq_any (s.extract k s.size) ⟨#[91, 93, 45, 94, 92]⟩ _ ?_).mono ?_
            · have := size_list (s.extract k s.size)
              rw [Lib.extract_to_end, List.length_drop, HL.out] at this
              omega
            rw [Lib.extract_to_end]
            unfold NextQ
            rw [show (⟨#[91, 93, 45, 94, 92]⟩ : ByteArray).data.toList = sgC from rfl, HNN.out]
            rintro e w2 ⟨rfl, d, rfl⟩
            replace hB := hB.drewN d
            replace hB0 := hB0.drewN d
            replace hbw := below_drewN hbw d
            clear z0 z1 z2 z3
            generalize wr.drewN d = wz at hB hB0 hbw ⊢
            have z0 : wz.cell? ⟨w.heap.size + 1, 0, none⟩ = some (.int .u64 a0) := hB.cell 0
            have z1 : wz.cell? ⟨w.heap.size + 1, 1, none⟩ = some (.int .u64 a1) := hB.cell 1
            have z2 : wz.cell? ⟨w.heap.size + 1, 2, none⟩ = some (.int .u64 a2) := hB.cell 2
            have z3 : wz.cell? ⟨w.heap.size + 1, 3, none⟩ = some (.int .u64 a3) := hB.cell 3
            go_wp2_with fail
            refine (nextq_any (s.extract K1 s.size) ⟨#[91, 93, 45, 94, 92]⟩ _ ?_).mono ?_
            · have := size_list (s.extract K1 s.size)
              rw [Lib.extract_to_end, List.length_drop, HL.out] at this
              omega
            rw [Lib.extract_to_end]
            unfold NextQ
            rw [show (⟨#[91, 93, 45, 94, 92]⟩ : ByteArray).data.toList = sgC from rfl, HNN2.out]
            rintro e w2 ⟨rfl, d, rfl⟩
            replace hB := hB.drewN d
            replace hB0 := hB0.drewN d
            replace hbw := below_drewN hbw d
            clear z0 z1 z2 z3
            generalize wz.drewN d = wy at hB hB0 hbw ⊢
            have z0 : wy.cell? ⟨w.heap.size + 1, 0, none⟩ = some (.int .u64 a0) := hB.cell 0
            have z1 : wy.cell? ⟨w.heap.size + 1, 1, none⟩ = some (.int .u64 a1) := hB.cell 1
            have z2 : wy.cell? ⟨w.heap.size + 1, 2, none⟩ = some (.int .u64 a2) := hB.cell 2
            have z3 : wy.cell? ⟨w.heap.size + 1, 3, none⟩ = some (.int .u64 a3) := hB.cell 3
            go_wp2_with fail
            go_region_with (first
              | (go_at_call 56; refine (HRG.out _).mono ?_; rintro e w4 ⟨rfl, hb4⟩
                 have hB4 := hB.drew.below hb4 hB.lt
                 have hB40 := hB0.drew.below hb4 hB0.lt
                 have hbw4 := hbw.drew.trans (hb4.mono hbw.size)
                 have y0 : w4.cell? ⟨w.heap.size + 1, 0, none⟩ = some (.int .u64 a0) := hB4.cell 0
                 have y1 : w4.cell? ⟨w.heap.size + 1, 1, none⟩ = some (.int .u64 a1) := hB4.cell 1
                 have y2 : w4.cell? ⟨w.heap.size + 1, 2, none⟩ = some (.int .u64 a2) := hB4.cell 2
                 have y3 : w4.cell? ⟨w.heap.size + 1, 3, none⟩ = some (.int .u64 a3) := hB4.cell 3)
              | (go_at_call 135; refine (HJN.out _).mono ?_; rintro e w5 ⟨rfl, hb5⟩
                 have hB5 := hB4.below hb5 hB4.lt
                 have hB50 := hB40.below hb5 hB40.lt
                 have hbw5 := hbw4.trans (hb5.mono hbw4.size)
                 have u0 : w5.cell? ⟨w.heap.size + 1, 0, none⟩ = some (.int .u64 a0) := hB5.cell 0
                 have u1 : w5.cell? ⟨w.heap.size + 1, 1, none⟩ = some (.int .u64 a1) := hB5.cell 1
                 have u2 : w5.cell? ⟨w.heap.size + 1, 2, none⟩ = some (.int .u64 a2) := hB5.cell 2
                 have u3 : w5.cell? ⟨w.heap.size + 1, 3, none⟩ = some (.int .u64 a3) := hB5.cell 3
                 have f0 := hB5.frozen 0
                 have f1 := hB5.frozen 1
                 have f2 := hB5.frozen 2
                 have f3 := hB5.frozen 3))
            all_goals
              go_wp2
              go_roundw
              case rel =>
                refine ⟨K1 + m, f', orW acc R, by omega, by omega, by omega, by go_num, HREL, rfl, orW_words HAW.out HRW.out, ?_, (((hB50.far (by simp) _).far (by simp) _).far (by simp) _).far (by simp) _, (((hbw5.setCell (by simp) _).setCell (by simp) _).setCell (by simp) _).setCell (by simp) _⟩
                have h := (((hB5.set_ 0 (.int .u64 ((a0 ||| r0 : Nat) : Int))).set_ 1 (.int .u64 ((a1 ||| r1 : Nat) : Int))).set_ 2 (.int .u64 ((a2 ||| r2 : Nat) : Int))).set_ 3 (.int .u64 ((a3 ||| r3 : Nat) : Int))
                unfold orW
                rw [List.getD_cons_zero, List.getD_cons_succ, List.getD_cons_zero, List.getD_cons_succ, List.getD_cons_succ, List.getD_cons_zero, List.getD_cons_succ, List.getD_cons_succ, List.getD_cons_succ, List.getD_cons_zero, HA.out.1, HA.out.2.1, HA.out.2.2.1, HA.out.2.2.2, HR.out.1, HR.out.2.1, HR.out.2.2.1, HR.out.2.2.2]
                exact h
              case measure => simp [intOf]; omega
        · rw [if_neg hc] at hun
          have hu2 := Option.map_eq_none_iff.1 hun
          · obtain ⟨K, hK⟩ : ∃ K, K = k + n := ⟨_, rfl⟩
            generalize hRR : rangeL b 1 = R at hu2
            have HRW : Hid (Words R) := by show Words R; rw [← hRR]; exact rangeL_words _ _
            have HRG : ∀ W, Calls Tryd.prog 56 #[.int .i64 b, .int .i64 b] W fun e w' => e = .returned (vals R) ∧ Below W.heap.size W w' := fun W => by
              have := range_w (Nat.le_refl b) hn2 W
              rw [show b + 1 - b = 1 from by omega, hRR] at this
              exact this
            have HREL : Hid (unc f' (s.data.toList.drop K) (orW acc R) = none) := by
              show _ = _
              rw [hK, hu2]
            have hkK : (k : Int) + (n : Int) = (K : Int) := by omega
            have hK0 : (0 : Int) ≤ (K : Int) := by omega
            have hMb : K ≤ s.size := by omega
            have hMk : k < K := by omega
            rw [← hK] at hc
            have HCC := Lib.hid hc
            clear hun hu2 hRR hc hK
            obtain ⟨r0, hr0⟩ : ∃ a, R.getD 0 0 = a := ⟨_, rfl⟩
            obtain ⟨r1, hr1⟩ : ∃ a, R.getD 1 0 = a := ⟨_, rfl⟩
            obtain ⟨r2, hr2⟩ : ∃ a, R.getD 2 0 = a := ⟨_, rfl⟩
            obtain ⟨r3, hr3⟩ : ∃ a, R.getD 3 0 = a := ⟨_, rfl⟩
            have HR : Hid (R.getD 0 0 = r0 ∧ R.getD 1 0 = r1 ∧ R.getD 2 0 = r2 ∧ R.getD 3 0 = r3) := ⟨hr0, hr1, hr2, hr3⟩
            have HJN : Hid (∀ W, Calls Tryd.prog 135 #[.agg #[.int .u64 a0, .int .u64 a1, .int .u64 a2, .int .u64 a3], .agg #[.int .u64 r0, .int .u64 r1, .int .u64 r2, .int .u64 r3]] W fun e w' => e = .returned (.agg #[.int .u64 ((a0 ||| r0 : Nat) : Int), .int .u64 ((a1 ||| r1 : Nat) : Int), .int .u64 ((a2 ||| r2 : Nat) : Int), .int .u64 ((a3 ||| r3 : Nat) : Int)]) ∧ Below W.heap.size W w') := fun W => by
              have := join_w HAW.out HRW.out W
              unfold vals orW at this
              simp only [List.getD_cons_zero, List.getD_cons_succ, HA.out.1, HA.out.2.1, HA.out.2.2.1, HA.out.2.2.2, hr0, hr1, hr2, hr3] at this
              exact this
            unfold vals at HRG
            rw [hr0, hr1, hr2, hr3] at HRG
            clear hr0 hr1 hr2 hr3
            replace HRG := Lib.hid HRG
            by_cases c1 : K + 1 < s.size
            · have hKs : K < s.size := by omega
              have hbK := bt_of hKs
              have hK1l : K + 1 < s.size := c1
              have hKi : (K : Int) + 1 < (s.size : Int) := by omega
              have hKs2 : (K : Int) < (s.size : Int) := by omega
              by_cases c2 : bt s.data.toList K = 45
              · obtain ⟨K1, hK1⟩ : ∃ K1, K1 = K + 1 := ⟨_, rfl⟩
                have c3 : bt s.data.toList K1 = 93 := by
                  rcases Nat.decEq (bt s.data.toList K1) 93 with h | h
                  · exact absurd ⟨by omega, c2, by rw [← hK1]; exact h⟩ HCC.out
                  · exact h
                have hK1s : K1 < s.size := by omega
                have hbK1 := bt_of hK1s
                have hkK1 : (K : Int) + 1 = (K1 : Int) := by omega
                have hK10 : (0 : Int) ≤ (K1 : Int) := by omega
                have hKj : (K1 : Int) < (s.size : Int) := by omega
                rw [c2] at hbK
                rw [c3] at hbK1
                clear hKi c1 hK1l hK1 c2 c3
                go_wp2_with fail
                refine (nextq_any (s.extract k s.size) ⟨#[91, 93, 45, 94, 92]⟩ _ ?_).mono ?_
                · have := size_list (s.extract k s.size)
                  rw [Lib.extract_to_end, List.length_drop, HL.out] at this
                  omega
                rw [Lib.extract_to_end]
                unfold NextQ
                rw [show (⟨#[91, 93, 45, 94, 92]⟩ : ByteArray).data.toList = sgC from rfl, HNN.out]
                rintro e w2 ⟨rfl, d, rfl⟩
                replace hB := hB.drewN d
                replace hB0 := hB0.drewN d
                replace hbw := below_drewN hbw d
                clear z0 z1 z2 z3
                generalize wr.drewN d = wz at hB hB0 hbw ⊢
                have z0 : wz.cell? ⟨w.heap.size + 1, 0, none⟩ = some (.int .u64 a0) := hB.cell 0
                have z1 : wz.cell? ⟨w.heap.size + 1, 1, none⟩ = some (.int .u64 a1) := hB.cell 1
                have z2 : wz.cell? ⟨w.heap.size + 1, 2, none⟩ = some (.int .u64 a2) := hB.cell 2
                have z3 : wz.cell? ⟨w.heap.size + 1, 3, none⟩ = some (.int .u64 a3) := hB.cell 3
                go_wp2_with fail
                go_region_with (first
                  | (go_at_call 56; refine (HRG.out _).mono ?_; rintro e w4 ⟨rfl, hb4⟩
                     have hB4 := hB.drew.below hb4 hB.lt
                     have hB40 := hB0.drew.below hb4 hB0.lt
                     have hbw4 := hbw.drew.trans (hb4.mono hbw.size)
                     have y0 : w4.cell? ⟨w.heap.size + 1, 0, none⟩ = some (.int .u64 a0) := hB4.cell 0
                     have y1 : w4.cell? ⟨w.heap.size + 1, 1, none⟩ = some (.int .u64 a1) := hB4.cell 1
                     have y2 : w4.cell? ⟨w.heap.size + 1, 2, none⟩ = some (.int .u64 a2) := hB4.cell 2
                     have y3 : w4.cell? ⟨w.heap.size + 1, 3, none⟩ = some (.int .u64 a3) := hB4.cell 3)
                  | (go_at_call 135; refine (HJN.out _).mono ?_; rintro e w5 ⟨rfl, hb5⟩
                     have hB5 := hB4.below hb5 hB4.lt
                     have hB50 := hB40.below hb5 hB40.lt
                     have hbw5 := hbw4.trans (hb5.mono hbw4.size)
                     have u0 : w5.cell? ⟨w.heap.size + 1, 0, none⟩ = some (.int .u64 a0) := hB5.cell 0
                     have u1 : w5.cell? ⟨w.heap.size + 1, 1, none⟩ = some (.int .u64 a1) := hB5.cell 1
                     have u2 : w5.cell? ⟨w.heap.size + 1, 2, none⟩ = some (.int .u64 a2) := hB5.cell 2
                     have u3 : w5.cell? ⟨w.heap.size + 1, 3, none⟩ = some (.int .u64 a3) := hB5.cell 3
                     have f0 := hB5.frozen 0
                     have f1 := hB5.frozen 1
                     have f2 := hB5.frozen 2
                     have f3 := hB5.frozen 3))
                all_goals
                  go_wp2
                  go_roundw
                  case rel =>
                    refine ⟨K, f', orW acc R, by omega, by omega, by omega, by go_num, HREL, rfl, orW_words HAW.out HRW.out, ?_, (((hB50.far (by simp) _).far (by simp) _).far (by simp) _).far (by simp) _, (((hbw5.setCell (by simp) _).setCell (by simp) _).setCell (by simp) _).setCell (by simp) _⟩
                    have h := (((hB5.set_ 0 (.int .u64 ((a0 ||| r0 : Nat) : Int))).set_ 1 (.int .u64 ((a1 ||| r1 : Nat) : Int))).set_ 2 (.int .u64 ((a2 ||| r2 : Nat) : Int))).set_ 3 (.int .u64 ((a3 ||| r3 : Nat) : Int))
                    unfold orW
                    rw [List.getD_cons_zero, List.getD_cons_succ, List.getD_cons_zero, List.getD_cons_succ, List.getD_cons_succ, List.getD_cons_zero, List.getD_cons_succ, List.getD_cons_succ, List.getD_cons_succ, List.getD_cons_zero, HA.out.1, HA.out.2.1, HA.out.2.2.1, HA.out.2.2.2, HR.out.1, HR.out.2.1, HR.out.2.2.1, HR.out.2.2.2]
                    exact h
                  case measure => simp [intOf]; omega
              · have hbK2 : (((bt s.data.toList K : Nat) : Int) == 45) = false := by rw [beq_eq_false_iff_ne]; omega
                clear c2
                go_wp2_with fail
                refine (nextq_any (s.extract k s.size) ⟨#[91, 93, 45, 94, 92]⟩ _ ?_).mono ?_
                · have := size_list (s.extract k s.size)
                  rw [Lib.extract_to_end, List.length_drop, HL.out] at this
                  omega
                rw [Lib.extract_to_end]
                unfold NextQ
                rw [show (⟨#[91, 93, 45, 94, 92]⟩ : ByteArray).data.toList = sgC from rfl, HNN.out]
                rintro e w2 ⟨rfl, d, rfl⟩
                replace hB := hB.drewN d
                replace hB0 := hB0.drewN d
                replace hbw := below_drewN hbw d
                clear z0 z1 z2 z3
                generalize wr.drewN d = wz at hB hB0 hbw ⊢
                have z0 : wz.cell? ⟨w.heap.size + 1, 0, none⟩ = some (.int .u64 a0) := hB.cell 0
                have z1 : wz.cell? ⟨w.heap.size + 1, 1, none⟩ = some (.int .u64 a1) := hB.cell 1
                have z2 : wz.cell? ⟨w.heap.size + 1, 2, none⟩ = some (.int .u64 a2) := hB.cell 2
                have z3 : wz.cell? ⟨w.heap.size + 1, 3, none⟩ = some (.int .u64 a3) := hB.cell 3
                go_wp2_with fail
                go_region_with (first
                  | (go_at_call 56; refine (HRG.out _).mono ?_; rintro e w4 ⟨rfl, hb4⟩
                     have hB4 := hB.drew.below hb4 hB.lt
                     have hB40 := hB0.drew.below hb4 hB0.lt
                     have hbw4 := hbw.drew.trans (hb4.mono hbw.size)
                     have y0 : w4.cell? ⟨w.heap.size + 1, 0, none⟩ = some (.int .u64 a0) := hB4.cell 0
                     have y1 : w4.cell? ⟨w.heap.size + 1, 1, none⟩ = some (.int .u64 a1) := hB4.cell 1
                     have y2 : w4.cell? ⟨w.heap.size + 1, 2, none⟩ = some (.int .u64 a2) := hB4.cell 2
                     have y3 : w4.cell? ⟨w.heap.size + 1, 3, none⟩ = some (.int .u64 a3) := hB4.cell 3)
                  | (go_at_call 135; refine (HJN.out _).mono ?_; rintro e w5 ⟨rfl, hb5⟩
                     have hB5 := hB4.below hb5 hB4.lt
                     have hB50 := hB40.below hb5 hB40.lt
                     have hbw5 := hbw4.trans (hb5.mono hbw4.size)
                     have u0 : w5.cell? ⟨w.heap.size + 1, 0, none⟩ = some (.int .u64 a0) := hB5.cell 0
                     have u1 : w5.cell? ⟨w.heap.size + 1, 1, none⟩ = some (.int .u64 a1) := hB5.cell 1
                     have u2 : w5.cell? ⟨w.heap.size + 1, 2, none⟩ = some (.int .u64 a2) := hB5.cell 2
                     have u3 : w5.cell? ⟨w.heap.size + 1, 3, none⟩ = some (.int .u64 a3) := hB5.cell 3
                     have f0 := hB5.frozen 0
                     have f1 := hB5.frozen 1
                     have f2 := hB5.frozen 2
                     have f3 := hB5.frozen 3))
                all_goals
                  go_wp2
                  go_roundw
                  case rel =>
                    refine ⟨K, f', orW acc R, by omega, by omega, by omega, by go_num, HREL, rfl, orW_words HAW.out HRW.out, ?_, (((hB50.far (by simp) _).far (by simp) _).far (by simp) _).far (by simp) _, (((hbw5.setCell (by simp) _).setCell (by simp) _).setCell (by simp) _).setCell (by simp) _⟩
                    have h := (((hB5.set_ 0 (.int .u64 ((a0 ||| r0 : Nat) : Int))).set_ 1 (.int .u64 ((a1 ||| r1 : Nat) : Int))).set_ 2 (.int .u64 ((a2 ||| r2 : Nat) : Int))).set_ 3 (.int .u64 ((a3 ||| r3 : Nat) : Int))
                    unfold orW
                    rw [List.getD_cons_zero, List.getD_cons_succ, List.getD_cons_zero, List.getD_cons_succ, List.getD_cons_succ, List.getD_cons_zero, List.getD_cons_succ, List.getD_cons_succ, List.getD_cons_succ, List.getD_cons_zero, HA.out.1, HA.out.2.1, HA.out.2.2.1, HA.out.2.2.2, HR.out.1, HR.out.2.1, HR.out.2.2.1, HR.out.2.2.2]
                    exact h
                  case measure => simp [intOf]; omega
            · have hKn : ¬ (K : Int) + 1 < (s.size : Int) := by omega
              go_wp2_with fail
              refine (nextq_any (s.extract k s.size) ⟨#[91, 93, 45, 94, 92]⟩ _ ?_).mono ?_
              · have := size_list (s.extract k s.size)
                rw [Lib.extract_to_end, List.length_drop, HL.out] at this
                omega
              rw [Lib.extract_to_end]
              unfold NextQ
              rw [show (⟨#[91, 93, 45, 94, 92]⟩ : ByteArray).data.toList = sgC from rfl, HNN.out]
              rintro e w2 ⟨rfl, d, rfl⟩
              replace hB := hB.drewN d
              replace hB0 := hB0.drewN d
              replace hbw := below_drewN hbw d
              clear z0 z1 z2 z3
              generalize wr.drewN d = wz at hB hB0 hbw ⊢
              have z0 : wz.cell? ⟨w.heap.size + 1, 0, none⟩ = some (.int .u64 a0) := hB.cell 0
              have z1 : wz.cell? ⟨w.heap.size + 1, 1, none⟩ = some (.int .u64 a1) := hB.cell 1
              have z2 : wz.cell? ⟨w.heap.size + 1, 2, none⟩ = some (.int .u64 a2) := hB.cell 2
              have z3 : wz.cell? ⟨w.heap.size + 1, 3, none⟩ = some (.int .u64 a3) := hB.cell 3
              go_wp2_with fail
              go_region_with (first
                | (go_at_call 56; refine (HRG.out _).mono ?_; rintro e w4 ⟨rfl, hb4⟩
                   have hB4 := hB.drew.below hb4 hB.lt
                   have hB40 := hB0.drew.below hb4 hB0.lt
                   have hbw4 := hbw.drew.trans (hb4.mono hbw.size)
                   have y0 : w4.cell? ⟨w.heap.size + 1, 0, none⟩ = some (.int .u64 a0) := hB4.cell 0
                   have y1 : w4.cell? ⟨w.heap.size + 1, 1, none⟩ = some (.int .u64 a1) := hB4.cell 1
                   have y2 : w4.cell? ⟨w.heap.size + 1, 2, none⟩ = some (.int .u64 a2) := hB4.cell 2
                   have y3 : w4.cell? ⟨w.heap.size + 1, 3, none⟩ = some (.int .u64 a3) := hB4.cell 3)
                | (go_at_call 135; refine (HJN.out _).mono ?_; rintro e w5 ⟨rfl, hb5⟩
                   have hB5 := hB4.below hb5 hB4.lt
                   have hB50 := hB40.below hb5 hB40.lt
                   have hbw5 := hbw4.trans (hb5.mono hbw4.size)
                   have u0 : w5.cell? ⟨w.heap.size + 1, 0, none⟩ = some (.int .u64 a0) := hB5.cell 0
                   have u1 : w5.cell? ⟨w.heap.size + 1, 1, none⟩ = some (.int .u64 a1) := hB5.cell 1
                   have u2 : w5.cell? ⟨w.heap.size + 1, 2, none⟩ = some (.int .u64 a2) := hB5.cell 2
                   have u3 : w5.cell? ⟨w.heap.size + 1, 3, none⟩ = some (.int .u64 a3) := hB5.cell 3
                   have f0 := hB5.frozen 0
                   have f1 := hB5.frozen 1
                   have f2 := hB5.frozen 2
                   have f3 := hB5.frozen 3))
              all_goals
                go_wp2
                go_roundw
                case rel =>
                  refine ⟨K, f', orW acc R, by omega, by omega, by omega, by go_num, HREL, rfl, orW_words HAW.out HRW.out, ?_, (((hB50.far (by simp) _).far (by simp) _).far (by simp) _).far (by simp) _, (((hbw5.setCell (by simp) _).setCell (by simp) _).setCell (by simp) _).setCell (by simp) _⟩
                  have h := (((hB5.set_ 0 (.int .u64 ((a0 ||| r0 : Nat) : Int))).set_ 1 (.int .u64 ((a1 ||| r1 : Nat) : Int))).set_ 2 (.int .u64 ((a2 ||| r2 : Nat) : Int))).set_ 3 (.int .u64 ((a3 ||| r3 : Nat) : Int))
                  unfold orW
                  rw [List.getD_cons_zero, List.getD_cons_succ, List.getD_cons_zero, List.getD_cons_succ, List.getD_cons_succ, List.getD_cons_zero, List.getD_cons_succ, List.getD_cons_succ, List.getD_cons_succ, List.getD_cons_zero, HA.out.1, HA.out.2.1, HA.out.2.2.1, HA.out.2.2.2, HR.out.1, HR.out.2.1, HR.out.2.2.1, HR.out.2.2.2]
                  exact h
                case measure => simp [intOf]; omega
    · obtain rfl : k = s.size := by omega
      clear hun
      have z0 : wr.cell? ⟨w.heap.size + 1, 0, none⟩ = some (.int .u64 (acc.getD 0 0 : Nat)) := hB.cell 0
      have z1 : wr.cell? ⟨w.heap.size + 1, 1, none⟩ = some (.int .u64 (acc.getD 1 0 : Nat)) := hB.cell 1
      have z2 : wr.cell? ⟨w.heap.size + 1, 2, none⟩ = some (.int .u64 (acc.getD 2 0 : Nat)) := hB.cell 2
      have z3 : wr.cell? ⟨w.heap.size + 1, 3, none⟩ = some (.int .u64 (acc.getD 3 0 : Nat)) := hB.cell 3
      have n0 : wr.cell? ⟨w.heap.size, 0, none⟩ = some (.int .u64 0) := hB0.cell 0
      have n1 : wr.cell? ⟨w.heap.size, 1, none⟩ = some (.int .u64 0) := hB0.cell 1
      have n2 : wr.cell? ⟨w.heap.size, 2, none⟩ = some (.int .u64 0) := hB0.cell 2
      have n3 : wr.cell? ⟨w.heap.size, 3, none⟩ = some (.int .u64 0) := hB0.cell 3
      have g0 := hB0.frozen 0
      have g1 := hB0.frozen 1
      have g2 := hB0.frozen 2
      have g3 := hB0.frozen 3
      go_wp2_with fail
      have hBF : Blk ((((wr.setCell ⟨w.heap.size, 0, none⟩ (.int .u64 0)).setCell ⟨w.heap.size, 1, none⟩ (.int .u64 0)).setCell ⟨w.heap.size, 2, none⟩ (.int .u64 0)).setCell ⟨w.heap.size, 3, none⟩ (.int .u64 0)) w.heap.size 24 #[.int .u64 0, .int .u64 0, .int .u64 0, .int .u64 0] := (((hB0.set_ 0 _).set_ 1 _).set_ 2 _).set_ 3 _
      have hbF : Below w.heap.size w ((((wr.setCell ⟨w.heap.size, 0, none⟩ (.int .u64 0)).setCell ⟨w.heap.size, 1, none⟩ (.int .u64 0)).setCell ⟨w.heap.size, 2, none⟩ (.int .u64 0)).setCell ⟨w.heap.size, 3, none⟩ (.int .u64 0)) := ((((hbw.setCell (Nat.le_refl _) _).setCell (Nat.le_refl _) _).setCell (Nat.le_refl _) _).setCell (Nat.le_refl _) _)
      generalize ((((wr.setCell ⟨w.heap.size, 0, none⟩ (.int .u64 0)).setCell ⟨w.heap.size, 1, none⟩ (.int .u64 0)).setCell ⟨w.heap.size, 2, none⟩ (.int .u64 0)).setCell ⟨w.heap.size, 3, none⟩ (.int .u64 0)) = W9 at hBF hbF ⊢
      have q0 : W9.cell? ⟨w.heap.size, 0, none⟩ = some (.int .u64 0) := hBF.cell 0
      have q1 : W9.cell? ⟨w.heap.size, 1, none⟩ = some (.int .u64 0) := hBF.cell 1
      have q2 : W9.cell? ⟨w.heap.size, 2, none⟩ = some (.int .u64 0) := hBF.cell 2
      have q3 : W9.cell? ⟨w.heap.size, 3, none⟩ = some (.int .u64 0) := hBF.cell 3
      refine bodyPost_ret (v := .tuple #[.agg #[.int .u64 0, .int .u64 0, .int .u64 0, .int .u64 0], .int .i64 0, .int .i64 4]) (by simp [results, Tryd.results116, go_sem, q0, q1, q2, q3]) rfl ⟨rfl, hbF⟩
set_option maxRecDepth 100000 in
set_option maxHeartbeats 4000000 in
theorem unclass_no2 (s : ByteArray) (w : World) (hs : s.size ≤ 4611686018427387904) (h1s : 1 < s.size) (hq : bt s.data.toList 0 = 91) (hq1 : bt s.data.toList 1 = 94)
    (i0 : Nat) (hi0 : i0 = 2) (F : Nat) (hF : s.size < F) (ho : unc F (s.data.toList.drop i0) [0, 0, 0, 0] = none) :
    Calls Tryd.prog 116 #[.string s] w fun e w' => e = .returned (.tuple #[.agg #[.int .u64 0, .int .u64 0, .int .u64 0, .int .u64 0], .int .i64 0, .int .i64 4]) ∧ Below w.heap.size w w' := by
  have HL := Lib.hid (size_list s)
  have h0 : 0 < s.size := by omega
  have hb0 := bt_of h0
  rw [hq] at hb0
  have HO2 : Hid (unc F (s.data.toList.drop i0) [0, 0, 0, 0] = none) := ho
  clear hq ho
  have hne : (s.toList.isEmpty) = false := by
    rw [ByteArray.toList_eq]
    cases h : s.data.toList with
    | nil => have := HL.out; rw [h] at this; simp at this; omega
    | cons => rfl
  have hb1 := bt_of h1s
  have h94 : (((bt s.data.toList 1 : Nat) : Int) == 94) = true := by
    rw [hq1]; rfl
  have HI := Lib.hid hi0
  clear hi0 hq1
  have hi02 : i0 ≤ s.size ∧ i0 ≤ 2 ∧ 1 ≤ i0 := by have := HI.out; omega
  generalize bt s.data.toList 1 = b1 at hb1 h94
  go_enter Tryd.func116, Tryd.ntmps116
  go_wp2_with fail
  go_loopw [6] (fun i wr => ∃ (k f : Nat) (acc : List Nat), 1 ≤ k ∧ k ≤ s.size ∧ s.size - k < f ∧ i = .int .i64 k ∧ Hid (unc f (s.data.toList.drop k) acc = none) ∧ acc.length = 4 ∧ Words acc ∧
    Blk wr (w.heap.size + 1) 24 #[.int .u64 (acc.getD 0 0 : Nat), .int .u64 (acc.getD 1 0 : Nat), .int .u64 (acc.getD 2 0 : Nat), .int .u64 (acc.getD 3 0 : Nat)] ∧ Blk wr w.heap.size 24 #[.int .u64 0, .int .u64 0, .int .u64 0, .int .u64 0] ∧ Below w.heap.size w wr) (fun i _ => s.size - (intOf i).toNat)
  case atStart => exact ⟨i0, F, [0, 0, 0, 0], hi02.2.2, hi02.1, by omega, (by rw [HI.out]; rfl), HO2, rfl, Words.zero, blk_at (by simp), (blk_at rfl).alloc _, (by repeat (first | exact Below.refl _ _ | assumption | refine Below.drew ?_ | refine below_drewN ?_ _ | refine Below.alloc ?_ (by first | omega | (simp; omega) | simp) _ | refine Below.setCell ?_ (by first | omega | (simp; omega) | simp) _))⟩
  case round =>
    obtain ⟨k, f, acc, hk1, hk, hf, rfl, hun0, haL, haW, hB, hB0, hbw⟩ := hrel
    have hun := hun0.out
    have HAL := Lib.hid haL
    have HAW := Lib.hid haW
    clear haL haW hun0
    obtain ⟨f', rfl⟩ : ∃ f', f = f' + 1 := ⟨f - 1, by omega⟩
    by_cases hkn : k < s.size
    · have hne' : s.data.toList.drop k ≠ [] := by
        intro h
        have := congrArg List.length h
        rw [List.length_drop, HL.out, List.length_nil] at this
        omega
      have hbk := bt_of hkn
      have hk0 : (0 : Int) ≤ (k : Int) := by omega
      have hk1' : (k : Int) < (s.size : Int) := by omega
      obtain ⟨a0, ha0⟩ : ∃ a, acc.getD 0 0 = a := ⟨_, rfl⟩
      obtain ⟨a1, ha1⟩ : ∃ a, acc.getD 1 0 = a := ⟨_, rfl⟩
      obtain ⟨a2, ha2⟩ : ∃ a, acc.getD 2 0 = a := ⟨_, rfl⟩
      obtain ⟨a3, ha3⟩ : ∃ a, acc.getD 3 0 = a := ⟨_, rfl⟩
      rw [ha0, ha1, ha2, ha3] at hB
      have HA : Hid (acc.getD 0 0 = a0 ∧ acc.getD 1 0 = a1 ∧ acc.getD 2 0 = a2 ∧ acc.getD 3 0 = a3) := ⟨ha0, ha1, ha2, ha3⟩
      clear ha0 ha1 ha2 ha3
      have z0 : wr.cell? ⟨w.heap.size + 1, 0, none⟩ = some (.int .u64 a0) := hB.cell 0
      have z1 : wr.cell? ⟨w.heap.size + 1, 1, none⟩ = some (.int .u64 a1) := hB.cell 1
      have z2 : wr.cell? ⟨w.heap.size + 1, 2, none⟩ = some (.int .u64 a2) := hB.cell 2
      have z3 : wr.cell? ⟨w.heap.size + 1, 3, none⟩ = some (.int .u64 a3) := hB.cell 3
      by_cases hbq : bt s.data.toList k = 93
      · rw [unc_end f' acc hne' (by rw [bt_drop']; exact hbq)] at hun
        cases hun
      · have hbq0 : bt (s.data.toList.drop k) 0 ≠ 93 := by rw [bt_drop', Nat.add_zero]; exact hbq
        generalize hnn : nextN sgC (s.data.toList.drop k) = nx at hun
        obtain ⟨b, n⟩ := nx
        have hnb := nextN_bd sgC _ hne'
        rw [hnn] at hnb
        obtain ⟨hn1, hn2, hn3⟩ := hnb
        simp only at hn1 hn2 hn3
        rw [List.length_drop, HL.out] at hn1
        by_cases hn0 : n = 0
        · subst hn0
          have HNN := Lib.hid hnn
          have hbne : (((bt s.data.toList k : Nat) : Int) == 93) = false := by rw [beq_eq_false_iff_ne]; omega
          clear hun hnn hbq hbq0 hne'
          go_wp2_with fail
          refine (nextq_any (s.extract k s.size) ⟨#[91, 93, 45, 94, 92]⟩ _ ?_).mono ?_
          · have := size_list (s.extract k s.size)
            rw [Lib.extract_to_end, List.length_drop, HL.out] at this
            omega
          rw [Lib.extract_to_end]
          unfold NextQ
          rw [show (⟨#[91, 93, 45, 94, 92]⟩ : ByteArray).data.toList = sgC from rfl, HNN.out]
          rintro e w2 ⟨rfl, d, rfl⟩
          replace hB := hB.drewN d
          replace hB0 := hB0.drewN d
          replace hbw := below_drewN hbw d
          clear z0 z1 z2 z3
          generalize wr.drewN d = wz at hB hB0 hbw ⊢
          have z0 : wz.cell? ⟨w.heap.size + 1, 0, none⟩ = some (.int .u64 a0) := hB.cell 0
          have z1 : wz.cell? ⟨w.heap.size + 1, 1, none⟩ = some (.int .u64 a1) := hB.cell 1
          have z2 : wz.cell? ⟨w.heap.size + 1, 2, none⟩ = some (.int .u64 a2) := hB.cell 2
          have z3 : wz.cell? ⟨w.heap.size + 1, 3, none⟩ = some (.int .u64 a3) := hB.cell 3
          have n0 : wz.cell? ⟨w.heap.size, 0, none⟩ = some (.int .u64 0) := hB0.cell 0
          have n1 : wz.cell? ⟨w.heap.size, 1, none⟩ = some (.int .u64 0) := hB0.cell 1
          have n2 : wz.cell? ⟨w.heap.size, 2, none⟩ = some (.int .u64 0) := hB0.cell 2
          have n3 : wz.cell? ⟨w.heap.size, 3, none⟩ = some (.int .u64 0) := hB0.cell 3
          have g0 := hB0.frozen 0
          have g1 := hB0.frozen 1
          have g2 := hB0.frozen 2
          have g3 := hB0.frozen 3
          go_wp2_with fail
          have hBF : Blk ((((wz.setCell ⟨w.heap.size, 0, none⟩ (.int .u64 0)).setCell ⟨w.heap.size, 1, none⟩ (.int .u64 0)).setCell ⟨w.heap.size, 2, none⟩ (.int .u64 0)).setCell ⟨w.heap.size, 3, none⟩ (.int .u64 0)) w.heap.size 24 #[.int .u64 0, .int .u64 0, .int .u64 0, .int .u64 0] := (((hB0.set_ 0 _).set_ 1 _).set_ 2 _).set_ 3 _
          have hbF : Below w.heap.size w ((((wz.setCell ⟨w.heap.size, 0, none⟩ (.int .u64 0)).setCell ⟨w.heap.size, 1, none⟩ (.int .u64 0)).setCell ⟨w.heap.size, 2, none⟩ (.int .u64 0)).setCell ⟨w.heap.size, 3, none⟩ (.int .u64 0)) := ((((hbw.setCell (Nat.le_refl _) _).setCell (Nat.le_refl _) _).setCell (Nat.le_refl _) _).setCell (Nat.le_refl _) _)
          generalize ((((wz.setCell ⟨w.heap.size, 0, none⟩ (.int .u64 0)).setCell ⟨w.heap.size, 1, none⟩ (.int .u64 0)).setCell ⟨w.heap.size, 2, none⟩ (.int .u64 0)).setCell ⟨w.heap.size, 3, none⟩ (.int .u64 0)) = W9 at hBF hbF ⊢
          have q0 : W9.cell? ⟨w.heap.size, 0, none⟩ = some (.int .u64 0) := hBF.cell 0
          have q1 : W9.cell? ⟨w.heap.size, 1, none⟩ = some (.int .u64 0) := hBF.cell 1
          have q2 : W9.cell? ⟨w.heap.size, 2, none⟩ = some (.int .u64 0) := hBF.cell 2
          have q3 : W9.cell? ⟨w.heap.size, 3, none⟩ = some (.int .u64 0) := hBF.cell 3
          refine bodyPost_ret (v := .tuple #[.agg #[.int .u64 0, .int .u64 0, .int .u64 0, .int .u64 0], .int .i64 0, .int .i64 4]) (by simp [results, Tryd.results116, go_sem, q0, q1, q2, q3]) rfl ⟨rfl, hbF⟩
        rw [unc_step f' acc hne' hbq0 hnn hn0] at hun
        simp only [List.drop_drop, List.length_drop, HL.out, bt_drop', Nat.add_zero] at hun
        have HNN := Lib.hid hnn
        have hbne : (((bt s.data.toList k : Nat) : Int) == 93) = false := by rw [beq_eq_false_iff_ne]; omega
        have hn00 : ((n : Int) == 0) = false := by rw [beq_eq_false_iff_ne]; omega
        have hwb : IntKind.i64.wrap (b : Int) = (b : Int) := IntWalk.i64_in _ (by omega)
        clear hnn hbq hbq0 hne'
        by_cases hc : 1 < s.size - (k + n) ∧ bt s.data.toList (k + n) = 45 ∧ bt s.data.toList (k + n + 1) ≠ 93
        · rw [if_pos hc] at hun
          obtain ⟨c1, c2, c3⟩ := hc
          have hne2 : s.data.toList.drop (k + (n + 1)) ≠ [] := by
            intro h
            have := congrArg List.length h
            rw [List.length_drop, HL.out, List.length_nil] at this
            omega
          generalize hnn : nextN sgC (s.data.toList.drop (k + (n + 1))) = nx at hun
          obtain ⟨h, m⟩ := nx
          have hnb := nextN_bd sgC _ hne2
          rw [hnn] at hnb
          obtain ⟨hm1, hm2, hm3⟩ := hnb
          simp only at hm1 hm2 hm3 hun
          rw [List.length_drop, HL.out] at hm1
          by_cases hmb : m = 0 ∨ h < b
          · obtain ⟨K, hK⟩ : ∃ K, K = k + n := ⟨_, rfl⟩
            obtain ⟨K1, hK1⟩ : ∃ K1, K1 = K + 1 := ⟨_, rfl⟩
            have HNN2 : Hid (nextN sgC (s.data.toList.drop K1) = (h, m)) := by
              show _ = _
              rw [show K1 = k + (n + 1) from by omega]
              exact hnn
            rw [show k + n + 1 = K1 from by omega] at c3
            rw [← hK] at c1 c2
            have hkK : (k : Int) + (n : Int) = (K : Int) := by omega
            have hkK1 : (K : Int) + 1 = (K1 : Int) := by omega
            have hKl : K < s.size := by omega
            have hK1l : K1 < s.size := by omega
            have hbK := bt_of hKl
            have hbK1 := bt_of hK1l
            rw [c2] at hbK
            have hbK2 : (((bt s.data.toList K1 : Nat) : Int) != 93) = true := by rw [bne_iff_ne]; omega
            have hKi : (K1 : Int) < (s.size : Int) := by omega
            have hK0 : (0 : Int) ≤ (K : Int) := by omega
            have hK10 : (0 : Int) ≤ (K1 : Int) := by omega
            have hKs : (K : Int) < (s.size : Int) := by omega
            clear hun hnn hne2 c1 c2 c3 hK hK1
            by_cases hm0 : m = 0
            · subst hm0
              clear hmb
              go_wp2_with fail
              refine (nextq_any (s.extract k s.size) ⟨#[91, 93, 45, 94, 92]⟩ _ ?_).mono ?_
              · have := size_list (s.extract k s.size)
                rw [Lib.extract_to_end, List.length_drop, HL.out] at this
                omega
              rw [Lib.extract_to_end]
              unfold NextQ
              rw [show (⟨#[91, 93, 45, 94, 92]⟩ : ByteArray).data.toList = sgC from rfl, HNN.out]
              rintro e w2 ⟨rfl, d, rfl⟩
              replace hB := hB.drewN d
              replace hB0 := hB0.drewN d
              replace hbw := below_drewN hbw d
              clear z0 z1 z2 z3
              generalize wr.drewN d = wz at hB hB0 hbw ⊢
              have z0 : wz.cell? ⟨w.heap.size + 1, 0, none⟩ = some (.int .u64 a0) := hB.cell 0
              have z1 : wz.cell? ⟨w.heap.size + 1, 1, none⟩ = some (.int .u64 a1) := hB.cell 1
              have z2 : wz.cell? ⟨w.heap.size + 1, 2, none⟩ = some (.int .u64 a2) := hB.cell 2
              have z3 : wz.cell? ⟨w.heap.size + 1, 3, none⟩ = some (.int .u64 a3) := hB.cell 3
              go_wp2_with fail
              refine (nextq_any (s.extract K1 s.size) ⟨#[91, 93, 45, 94, 92]⟩ _ ?_).mono ?_
              · have := size_list (s.extract K1 s.size)
                rw [Lib.extract_to_end, List.length_drop, HL.out] at this
                omega
              rw [Lib.extract_to_end]
              unfold NextQ
              rw [show (⟨#[91, 93, 45, 94, 92]⟩ : ByteArray).data.toList = sgC from rfl, HNN2.out]
              rintro e w2 ⟨rfl, d, rfl⟩
              replace hB := hB.drewN d
              replace hB0 := hB0.drewN d
              replace hbw := below_drewN hbw d
              clear z0 z1 z2 z3
              generalize wz.drewN d = wy at hB hB0 hbw ⊢
              have z0 : wy.cell? ⟨w.heap.size + 1, 0, none⟩ = some (.int .u64 a0) := hB.cell 0
              have z1 : wy.cell? ⟨w.heap.size + 1, 1, none⟩ = some (.int .u64 a1) := hB.cell 1
              have z2 : wy.cell? ⟨w.heap.size + 1, 2, none⟩ = some (.int .u64 a2) := hB.cell 2
              have z3 : wy.cell? ⟨w.heap.size + 1, 3, none⟩ = some (.int .u64 a3) := hB.cell 3
              have n0 : wy.cell? ⟨w.heap.size, 0, none⟩ = some (.int .u64 0) := hB0.cell 0
              have n1 : wy.cell? ⟨w.heap.size, 1, none⟩ = some (.int .u64 0) := hB0.cell 1
              have n2 : wy.cell? ⟨w.heap.size, 2, none⟩ = some (.int .u64 0) := hB0.cell 2
              have n3 : wy.cell? ⟨w.heap.size, 3, none⟩ = some (.int .u64 0) := hB0.cell 3
              have g0 := hB0.frozen 0
              have g1 := hB0.frozen 1
              have g2 := hB0.frozen 2
              have g3 := hB0.frozen 3
              go_wp2_with fail
              have hBF : Blk ((((wy.setCell ⟨w.heap.size, 0, none⟩ (.int .u64 0)).setCell ⟨w.heap.size, 1, none⟩ (.int .u64 0)).setCell ⟨w.heap.size, 2, none⟩ (.int .u64 0)).setCell ⟨w.heap.size, 3, none⟩ (.int .u64 0)) w.heap.size 24 #[.int .u64 0, .int .u64 0, .int .u64 0, .int .u64 0] := (((hB0.set_ 0 _).set_ 1 _).set_ 2 _).set_ 3 _
              have hbF : Below w.heap.size w ((((wy.setCell ⟨w.heap.size, 0, none⟩ (.int .u64 0)).setCell ⟨w.heap.size, 1, none⟩ (.int .u64 0)).setCell ⟨w.heap.size, 2, none⟩ (.int .u64 0)).setCell ⟨w.heap.size, 3, none⟩ (.int .u64 0)) := ((((hbw.setCell (Nat.le_refl _) _).setCell (Nat.le_refl _) _).setCell (Nat.le_refl _) _).setCell (Nat.le_refl _) _)
              generalize ((((wy.setCell ⟨w.heap.size, 0, none⟩ (.int .u64 0)).setCell ⟨w.heap.size, 1, none⟩ (.int .u64 0)).setCell ⟨w.heap.size, 2, none⟩ (.int .u64 0)).setCell ⟨w.heap.size, 3, none⟩ (.int .u64 0)) = W9 at hBF hbF ⊢
              have q0 : W9.cell? ⟨w.heap.size, 0, none⟩ = some (.int .u64 0) := hBF.cell 0
              have q1 : W9.cell? ⟨w.heap.size, 1, none⟩ = some (.int .u64 0) := hBF.cell 1
              have q2 : W9.cell? ⟨w.heap.size, 2, none⟩ = some (.int .u64 0) := hBF.cell 2
              have q3 : W9.cell? ⟨w.heap.size, 3, none⟩ = some (.int .u64 0) := hBF.cell 3
              refine bodyPost_ret (v := .tuple #[.agg #[.int .u64 0, .int .u64 0, .int .u64 0, .int .u64 0], .int .i64 0, .int .i64 4]) (by simp [results, Tryd.results116, go_sem, q0, q1, q2, q3]) rfl ⟨rfl, hbF⟩
            · have hhb : (h : Int) < (b : Int) := by omega
              have hm00 : ((m : Int) == 0) = false := by rw [beq_eq_false_iff_ne]; omega
              clear hmb hm0
              go_wp2_with fail
              refine (nextq_any (s.extract k s.size) ⟨#[91, 93, 45, 94, 92]⟩ _ ?_).mono ?_
              · have := size_list (s.extract k s.size)
                rw [Lib.extract_to_end, List.length_drop, HL.out] at this
                omega
              rw [Lib.extract_to_end]
              unfold NextQ
              rw [show (⟨#[91, 93, 45, 94, 92]⟩ : ByteArray).data.toList = sgC from rfl, HNN.out]
              rintro e w2 ⟨rfl, d, rfl⟩
              replace hB := hB.drewN d
              replace hB0 := hB0.drewN d
              replace hbw := below_drewN hbw d
              clear z0 z1 z2 z3
              generalize wr.drewN d = wz at hB hB0 hbw ⊢
              have z0 : wz.cell? ⟨w.heap.size + 1, 0, none⟩ = some (.int .u64 a0) := hB.cell 0
              have z1 : wz.cell? ⟨w.heap.size + 1, 1, none⟩ = some (.int .u64 a1) := hB.cell 1
              have z2 : wz.cell? ⟨w.heap.size + 1, 2, none⟩ = some (.int .u64 a2) := hB.cell 2
              have z3 : wz.cell? ⟨w.heap.size + 1, 3, none⟩ = some (.int .u64 a3) := hB.cell 3
              go_wp2_with fail
              refine (nextq_any (s.extract K1 s.size) ⟨#[91, 93, 45, 94, 92]⟩ _ ?_).mono ?_
              · have := size_list (s.extract K1 s.size)
                rw [Lib.extract_to_end, List.length_drop, HL.out] at this
                omega
              rw [Lib.extract_to_end]
              unfold NextQ
              rw [show (⟨#[91, 93, 45, 94, 92]⟩ : ByteArray).data.toList = sgC from rfl, HNN2.out]
              rintro e w2 ⟨rfl, d, rfl⟩
              replace hB := hB.drewN d
              replace hB0 := hB0.drewN d
              replace hbw := below_drewN hbw d
              clear z0 z1 z2 z3
              generalize wz.drewN d = wy at hB hB0 hbw ⊢
              have z0 : wy.cell? ⟨w.heap.size + 1, 0, none⟩ = some (.int .u64 a0) := hB.cell 0
              have z1 : wy.cell? ⟨w.heap.size + 1, 1, none⟩ = some (.int .u64 a1) := hB.cell 1
              have z2 : wy.cell? ⟨w.heap.size + 1, 2, none⟩ = some (.int .u64 a2) := hB.cell 2
              have z3 : wy.cell? ⟨w.heap.size + 1, 3, none⟩ = some (.int .u64 a3) := hB.cell 3
              have n0 : wy.cell? ⟨w.heap.size, 0, none⟩ = some (.int .u64 0) := hB0.cell 0
              have n1 : wy.cell? ⟨w.heap.size, 1, none⟩ = some (.int .u64 0) := hB0.cell 1
              have n2 : wy.cell? ⟨w.heap.size, 2, none⟩ = some (.int .u64 0) := hB0.cell 2
              have n3 : wy.cell? ⟨w.heap.size, 3, none⟩ = some (.int .u64 0) := hB0.cell 3
              have g0 := hB0.frozen 0
              have g1 := hB0.frozen 1
              have g2 := hB0.frozen 2
              have g3 := hB0.frozen 3
              go_wp2_with fail
              have hBF : Blk ((((wy.setCell ⟨w.heap.size, 0, none⟩ (.int .u64 0)).setCell ⟨w.heap.size, 1, none⟩ (.int .u64 0)).setCell ⟨w.heap.size, 2, none⟩ (.int .u64 0)).setCell ⟨w.heap.size, 3, none⟩ (.int .u64 0)) w.heap.size 24 #[.int .u64 0, .int .u64 0, .int .u64 0, .int .u64 0] := (((hB0.set_ 0 _).set_ 1 _).set_ 2 _).set_ 3 _
              have hbF : Below w.heap.size w ((((wy.setCell ⟨w.heap.size, 0, none⟩ (.int .u64 0)).setCell ⟨w.heap.size, 1, none⟩ (.int .u64 0)).setCell ⟨w.heap.size, 2, none⟩ (.int .u64 0)).setCell ⟨w.heap.size, 3, none⟩ (.int .u64 0)) := ((((hbw.setCell (Nat.le_refl _) _).setCell (Nat.le_refl _) _).setCell (Nat.le_refl _) _).setCell (Nat.le_refl _) _)
              generalize ((((wy.setCell ⟨w.heap.size, 0, none⟩ (.int .u64 0)).setCell ⟨w.heap.size, 1, none⟩ (.int .u64 0)).setCell ⟨w.heap.size, 2, none⟩ (.int .u64 0)).setCell ⟨w.heap.size, 3, none⟩ (.int .u64 0)) = W9 at hBF hbF ⊢
              have q0 : W9.cell? ⟨w.heap.size, 0, none⟩ = some (.int .u64 0) := hBF.cell 0
              have q1 : W9.cell? ⟨w.heap.size, 1, none⟩ = some (.int .u64 0) := hBF.cell 1
              have q2 : W9.cell? ⟨w.heap.size, 2, none⟩ = some (.int .u64 0) := hBF.cell 2
              have q3 : W9.cell? ⟨w.heap.size, 3, none⟩ = some (.int .u64 0) := hBF.cell 3
              refine bodyPost_ret (v := .tuple #[.agg #[.int .u64 0, .int .u64 0, .int .u64 0, .int .u64 0], .int .i64 0, .int .i64 4]) (by simp [results, Tryd.results116, go_sem, q0, q1, q2, q3]) rfl ⟨rfl, hbF⟩
          rw [if_neg hmb] at hun
          have hm0 : m ≠ 0 := fun e => hmb (.inl e)
          have hbh : b ≤ h := by
            rcases Nat.lt_or_ge h b with h' | h'
            · exact absurd (.inr h') hmb
            · exact h'
          have hu2 := Option.map_eq_none_iff.1 hun
          · obtain ⟨K, hK⟩ : ∃ K, K = k + n := ⟨_, rfl⟩
            obtain ⟨K1, hK1⟩ : ∃ K1, K1 = K + 1 := ⟨_, rfl⟩
            generalize hRR : rangeL b (h + 1 - b) = R at hu2
            have HRW : Hid (Words R) := by show Words R; rw [← hRR]; exact rangeL_words _ _
            have HRG : ∀ W, Calls Tryd.prog 56 #[.int .i64 b, .int .i64 h] W fun e w' => e = .returned (vals R) ∧ Below W.heap.size W w' := fun W => by
              have := range_w hbh hm2 W
              rw [hRR] at this
              exact this
            have HREL : Hid (unc f' (s.data.toList.drop (K1 + m)) (orW acc R) = none) := by
              show _ = _
              rw [show K1 + m = k + (n + 1 + m) from by omega, hu2]
            have HNN2 : Hid (nextN sgC (s.data.toList.drop K1) = (h, m)) := by
              show _ = _
              rw [show K1 = k + (n + 1) from by omega]
              exact hnn
            rw [show k + n + 1 = K1 from by omega] at c3
            rw [← hK] at c1 c2
            have hkK : (k : Int) + (n : Int) = (K : Int) := by omega
            have hkK1 : (K : Int) + 1 = (K1 : Int) := by omega
            have hKl : K < s.size := by omega
            have hK1l : K1 < s.size := by omega
            have hbK := bt_of hKl
            have hbK1 := bt_of hK1l
            rw [c2] at hbK
            have hbK2 : (((bt s.data.toList K1 : Nat) : Int) != 93) = true := by rw [bne_iff_ne]; omega
            have hKi : (K1 : Int) < (s.size : Int) := by omega
            have hK0 : (0 : Int) ≤ (K : Int) := by omega
            have hK10 : (0 : Int) ≤ (K1 : Int) := by omega
            have hKs : (K : Int) < (s.size : Int) := by omega
            have hm00 : ((m : Int) == 0) = false := by rw [beq_eq_false_iff_ne]; omega
            have hhl : ¬ (h : Int) < (b : Int) := by omega
            have hwh : IntKind.i64.wrap (h : Int) = (h : Int) := IntWalk.i64_in _ (by omega)
            have HKK : Hid (K1 = K + 1 ∧ K = k + n) := ⟨hK1, hK⟩
            clear hun hu2 hnn hRR hmb hne2 c1 c2 c3 hK hK1
            obtain ⟨r0, hr0⟩ : ∃ a, R.getD 0 0 = a := ⟨_, rfl⟩
            obtain ⟨r1, hr1⟩ : ∃ a, R.getD 1 0 = a := ⟨_, rfl⟩
            obtain ⟨r2, hr2⟩ : ∃ a, R.getD 2 0 = a := ⟨_, rfl⟩
            obtain ⟨r3, hr3⟩ : ∃ a, R.getD 3 0 = a := ⟨_, rfl⟩
            have HR : Hid (R.getD 0 0 = r0 ∧ R.getD 1 0 = r1 ∧ R.getD 2 0 = r2 ∧ R.getD 3 0 = r3) := ⟨hr0, hr1, hr2, hr3⟩
            have HJN : Hid (∀ W, Calls Tryd.prog 135 #[.agg #[.int .u64 a0, .int .u64 a1, .int .u64 a2, .int .u64 a3], .agg #[.int .u64 r0, .int .u64 r1, .int .u64 r2, .int .u64 r3]] W fun e w' => e = .returned (.agg #[.int .u64 ((a0 ||| r0 : Nat) : Int), .int .u64 ((a1 ||| r1 : Nat) : Int), .int .u64 ((a2 ||| r2 : Nat) : Int), .int .u64 ((a3 ||| r3 : Nat) : Int)]) ∧ Below W.heap.size W w') := fun W => by
              have := join_w HAW.out HRW.out W
              unfold vals orW at this
              simp only [List.getD_cons_zero, List.getD_cons_succ, HA.out.1, HA.out.2.1, HA.out.2.2.1, HA.out.2.2.2, hr0, hr1, hr2, hr3] at this
              exact this
            unfold vals at HRG
            rw [hr0, hr1, hr2, hr3] at HRG
            clear hr0 hr1 hr2 hr3
            replace HRG := Lib.hid HRG
            have hMb : K1 + m ≤ s.size := by have := HKK.out; omega
            have hMk : k < K1 + m := by have := HKK.out; omega
            go_wp2_with fail
            refine (nextq_any (s.extract k s.size) ⟨#[91, 93, 45, 94, 92]⟩ _ ?_).mono ?_
            · have := size_list (s.extract k s.size)
              rw [Lib.extract_to_end, List.length_drop, HL.out] at this
              omega
            rw [Lib.extract_to_end]
            unfold NextQ
            rw [show (⟨#[91, 93, 45, 94, 92]⟩ : ByteArray).data.toList = sgC from rfl, HNN.out]
            rintro e w2 ⟨rfl, d, rfl⟩
            replace hB := hB.drewN d
            replace hB0 := hB0.drewN d
            replace hbw := below_drewN hbw d
            clear z0 z1 z2 z3
            generalize wr.drewN d = wz at hB hB0 hbw ⊢
            have z0 : wz.cell? ⟨w.heap.size + 1, 0, none⟩ = some (.int .u64 a0) := hB.cell 0
            have z1 : wz.cell? ⟨w.heap.size + 1, 1, none⟩ = some (.int .u64 a1) := hB.cell 1
            have z2 : wz.cell? ⟨w.heap.size + 1, 2, none⟩ = some (.int .u64 a2) := hB.cell 2
            have z3 : wz.cell? ⟨w.heap.size + 1, 3, none⟩ = some (.int .u64 a3) := hB.cell 3
            go_wp2_with fail
            refine (nextq_any (s.extract K1 s.size) ⟨#[91, 93, 45, 94, 92]⟩ _ ?_).mono ?_
            · have := size_list (s.extract K1 s.size)
              rw [Lib.extract_to_end, List.length_drop, HL.out] at this
              omega
            rw [Lib.extract_to_end]
            unfold NextQ
            rw [show (⟨#[91, 93, 45, 94, 92]⟩ : ByteArray).data.toList = sgC from rfl, HNN2.out]
            rintro e w2 ⟨rfl, d, rfl⟩
            replace hB := hB.drewN d
            replace hB0 := hB0.drewN d
            replace hbw := below_drewN hbw d
            clear z0 z1 z2 z3
            generalize wz.drewN d = wy at hB hB0 hbw ⊢
            have z0 : wy.cell? ⟨w.heap.size + 1, 0, none⟩ = some (.int .u64 a0) := hB.cell 0
            have z1 : wy.cell? ⟨w.heap.size + 1, 1, none⟩ = some (.int .u64 a1) := hB.cell 1
            have z2 : wy.cell? ⟨w.heap.size + 1, 2, none⟩ = some (.int .u64 a2) := hB.cell 2
            have z3 : wy.cell? ⟨w.heap.size + 1, 3, none⟩ = some (.int .u64 a3) := hB.cell 3
            go_wp2_with fail
            go_region_with (first
              | (go_at_call 56; refine (HRG.out _).mono ?_; rintro e w4 ⟨rfl, hb4⟩
                 have hB4 := hB.drew.below hb4 hB.lt
                 have hB40 := hB0.drew.below hb4 hB0.lt
                 have hbw4 := hbw.drew.trans (hb4.mono hbw.size)
                 have y0 : w4.cell? ⟨w.heap.size + 1, 0, none⟩ = some (.int .u64 a0) := hB4.cell 0
                 have y1 : w4.cell? ⟨w.heap.size + 1, 1, none⟩ = some (.int .u64 a1) := hB4.cell 1
                 have y2 : w4.cell? ⟨w.heap.size + 1, 2, none⟩ = some (.int .u64 a2) := hB4.cell 2
                 have y3 : w4.cell? ⟨w.heap.size + 1, 3, none⟩ = some (.int .u64 a3) := hB4.cell 3)
              | (go_at_call 135; refine (HJN.out _).mono ?_; rintro e w5 ⟨rfl, hb5⟩
                 have hB5 := hB4.below hb5 hB4.lt
                 have hB50 := hB40.below hb5 hB40.lt
                 have hbw5 := hbw4.trans (hb5.mono hbw4.size)
                 have u0 : w5.cell? ⟨w.heap.size + 1, 0, none⟩ = some (.int .u64 a0) := hB5.cell 0
                 have u1 : w5.cell? ⟨w.heap.size + 1, 1, none⟩ = some (.int .u64 a1) := hB5.cell 1
                 have u2 : w5.cell? ⟨w.heap.size + 1, 2, none⟩ = some (.int .u64 a2) := hB5.cell 2
                 have u3 : w5.cell? ⟨w.heap.size + 1, 3, none⟩ = some (.int .u64 a3) := hB5.cell 3
                 have f0 := hB5.frozen 0
                 have f1 := hB5.frozen 1
                 have f2 := hB5.frozen 2
                 have f3 := hB5.frozen 3))
            all_goals
              go_wp2
              go_roundw
              case rel =>
                refine ⟨K1 + m, f', orW acc R, by omega, by omega, by omega, by go_num, HREL, rfl, orW_words HAW.out HRW.out, ?_, (((hB50.far (by simp) _).far (by simp) _).far (by simp) _).far (by simp) _, (((hbw5.setCell (by simp) _).setCell (by simp) _).setCell (by simp) _).setCell (by simp) _⟩
                have h := (((hB5.set_ 0 (.int .u64 ((a0 ||| r0 : Nat) : Int))).set_ 1 (.int .u64 ((a1 ||| r1 : Nat) : Int))).set_ 2 (.int .u64 ((a2 ||| r2 : Nat) : Int))).set_ 3 (.int .u64 ((a3 ||| r3 : Nat) : Int))
                unfold orW
                rw [List.getD_cons_zero, List.getD_cons_succ, List.getD_cons_zero, List.getD_cons_succ, List.getD_cons_succ, List.getD_cons_zero, List.getD_cons_succ, List.getD_cons_succ, List.getD_cons_succ, List.getD_cons_zero, HA.out.1, HA.out.2.1, HA.out.2.2.1, HA.out.2.2.2, HR.out.1, HR.out.2.1, HR.out.2.2.1, HR.out.2.2.2]
                exact h
              case measure => simp [intOf]; omega
        · rw [if_neg hc] at hun
          have hu2 := Option.map_eq_none_iff.1 hun
          · obtain ⟨K, hK⟩ : ∃ K, K = k + n := ⟨_, rfl⟩
            generalize hRR : rangeL b 1 = R at hu2
            have HRW : Hid (Words R) := by show Words R; rw [← hRR]; exact rangeL_words _ _
            have HRG : ∀ W, Calls Tryd.prog 56 #[.int .i64 b, .int .i64 b] W fun e w' => e = .returned (vals R) ∧ Below W.heap.size W w' := fun W => by
              have := range_w (Nat.le_refl b) hn2 W
              rw [show b + 1 - b = 1 from by omega, hRR] at this
              exact this
            have HREL : Hid (unc f' (s.data.toList.drop K) (orW acc R) = none) := by
              show _ = _
              rw [hK, hu2]
            have hkK : (k : Int) + (n : Int) = (K : Int) := by omega
            have hK0 : (0 : Int) ≤ (K : Int) := by omega
            have hMb : K ≤ s.size := by omega
            have hMk : k < K := by omega
            rw [← hK] at hc
            have HCC := Lib.hid hc
            clear hun hu2 hRR hc hK
            obtain ⟨r0, hr0⟩ : ∃ a, R.getD 0 0 = a := ⟨_, rfl⟩
            obtain ⟨r1, hr1⟩ : ∃ a, R.getD 1 0 = a := ⟨_, rfl⟩
            obtain ⟨r2, hr2⟩ : ∃ a, R.getD 2 0 = a := ⟨_, rfl⟩
            obtain ⟨r3, hr3⟩ : ∃ a, R.getD 3 0 = a := ⟨_, rfl⟩
            have HR : Hid (R.getD 0 0 = r0 ∧ R.getD 1 0 = r1 ∧ R.getD 2 0 = r2 ∧ R.getD 3 0 = r3) := ⟨hr0, hr1, hr2, hr3⟩
            have HJN : Hid (∀ W, Calls Tryd.prog 135 #[.agg #[.int .u64 a0, .int .u64 a1, .int .u64 a2, .int .u64 a3], .agg #[.int .u64 r0, .int .u64 r1, .int .u64 r2, .int .u64 r3]] W fun e w' => e = .returned (.agg #[.int .u64 ((a0 ||| r0 : Nat) : Int), .int .u64 ((a1 ||| r1 : Nat) : Int), .int .u64 ((a2 ||| r2 : Nat) : Int), .int .u64 ((a3 ||| r3 : Nat) : Int)]) ∧ Below W.heap.size W w') := fun W => by
              have := join_w HAW.out HRW.out W
              unfold vals orW at this
              simp only [List.getD_cons_zero, List.getD_cons_succ, HA.out.1, HA.out.2.1, HA.out.2.2.1, HA.out.2.2.2, hr0, hr1, hr2, hr3] at this
              exact this
            unfold vals at HRG
            rw [hr0, hr1, hr2, hr3] at HRG
            clear hr0 hr1 hr2 hr3
            replace HRG := Lib.hid HRG
            by_cases c1 : K + 1 < s.size
            · have hKs : K < s.size := by omega
              have hbK := bt_of hKs
              have hK1l : K + 1 < s.size := c1
              have hKi : (K : Int) + 1 < (s.size : Int) := by omega
              have hKs2 : (K : Int) < (s.size : Int) := by omega
              by_cases c2 : bt s.data.toList K = 45
              · obtain ⟨K1, hK1⟩ : ∃ K1, K1 = K + 1 := ⟨_, rfl⟩
                have c3 : bt s.data.toList K1 = 93 := by
                  rcases Nat.decEq (bt s.data.toList K1) 93 with h | h
                  · exact absurd ⟨by omega, c2, by rw [← hK1]; exact h⟩ HCC.out
                  · exact h
                have hK1s : K1 < s.size := by omega
                have hbK1 := bt_of hK1s
                have hkK1 : (K : Int) + 1 = (K1 : Int) := by omega
                have hK10 : (0 : Int) ≤ (K1 : Int) := by omega
                have hKj : (K1 : Int) < (s.size : Int) := by omega
                rw [c2] at hbK
                rw [c3] at hbK1
                clear hKi c1 hK1l hK1 c2 c3
                go_wp2_with fail
                refine (nextq_any (s.extract k s.size) ⟨#[91, 93, 45, 94, 92]⟩ _ ?_).mono ?_
                · have := size_list (s.extract k s.size)
                  rw [Lib.extract_to_end, List.length_drop, HL.out] at this
                  omega
                rw [Lib.extract_to_end]
                unfold NextQ
                rw [show (⟨#[91, 93, 45, 94, 92]⟩ : ByteArray).data.toList = sgC from rfl, HNN.out]
                rintro e w2 ⟨rfl, d, rfl⟩
                replace hB := hB.drewN d
                replace hB0 := hB0.drewN d
                replace hbw := below_drewN hbw d
                clear z0 z1 z2 z3
                generalize wr.drewN d = wz at hB hB0 hbw ⊢
                have z0 : wz.cell? ⟨w.heap.size + 1, 0, none⟩ = some (.int .u64 a0) := hB.cell 0
                have z1 : wz.cell? ⟨w.heap.size + 1, 1, none⟩ = some (.int .u64 a1) := hB.cell 1
                have z2 : wz.cell? ⟨w.heap.size + 1, 2, none⟩ = some (.int .u64 a2) := hB.cell 2
                have z3 : wz.cell? ⟨w.heap.size + 1, 3, none⟩ = some (.int .u64 a3) := hB.cell 3
                go_wp2_with fail
                go_region_with (first
                  | (go_at_call 56; refine (HRG.out _).mono ?_; rintro e w4 ⟨rfl, hb4⟩
                     have hB4 := hB.drew.below hb4 hB.lt
                     have hB40 := hB0.drew.below hb4 hB0.lt
                     have hbw4 := hbw.drew.trans (hb4.mono hbw.size)
                     have y0 : w4.cell? ⟨w.heap.size + 1, 0, none⟩ = some (.int .u64 a0) := hB4.cell 0
                     have y1 : w4.cell? ⟨w.heap.size + 1, 1, none⟩ = some (.int .u64 a1) := hB4.cell 1
                     have y2 : w4.cell? ⟨w.heap.size + 1, 2, none⟩ = some (.int .u64 a2) := hB4.cell 2
                     have y3 : w4.cell? ⟨w.heap.size + 1, 3, none⟩ = some (.int .u64 a3) := hB4.cell 3)
                  | (go_at_call 135; refine (HJN.out _).mono ?_; rintro e w5 ⟨rfl, hb5⟩
                     have hB5 := hB4.below hb5 hB4.lt
                     have hB50 := hB40.below hb5 hB40.lt
                     have hbw5 := hbw4.trans (hb5.mono hbw4.size)
                     have u0 : w5.cell? ⟨w.heap.size + 1, 0, none⟩ = some (.int .u64 a0) := hB5.cell 0
                     have u1 : w5.cell? ⟨w.heap.size + 1, 1, none⟩ = some (.int .u64 a1) := hB5.cell 1
                     have u2 : w5.cell? ⟨w.heap.size + 1, 2, none⟩ = some (.int .u64 a2) := hB5.cell 2
                     have u3 : w5.cell? ⟨w.heap.size + 1, 3, none⟩ = some (.int .u64 a3) := hB5.cell 3
                     have f0 := hB5.frozen 0
                     have f1 := hB5.frozen 1
                     have f2 := hB5.frozen 2
                     have f3 := hB5.frozen 3))
                all_goals
                  go_wp2
                  go_roundw
                  case rel =>
                    refine ⟨K, f', orW acc R, by omega, by omega, by omega, by go_num, HREL, rfl, orW_words HAW.out HRW.out, ?_, (((hB50.far (by simp) _).far (by simp) _).far (by simp) _).far (by simp) _, (((hbw5.setCell (by simp) _).setCell (by simp) _).setCell (by simp) _).setCell (by simp) _⟩
                    have h := (((hB5.set_ 0 (.int .u64 ((a0 ||| r0 : Nat) : Int))).set_ 1 (.int .u64 ((a1 ||| r1 : Nat) : Int))).set_ 2 (.int .u64 ((a2 ||| r2 : Nat) : Int))).set_ 3 (.int .u64 ((a3 ||| r3 : Nat) : Int))
                    unfold orW
                    rw [List.getD_cons_zero, List.getD_cons_succ, List.getD_cons_zero, List.getD_cons_succ, List.getD_cons_succ, List.getD_cons_zero, List.getD_cons_succ, List.getD_cons_succ, List.getD_cons_succ, List.getD_cons_zero, HA.out.1, HA.out.2.1, HA.out.2.2.1, HA.out.2.2.2, HR.out.1, HR.out.2.1, HR.out.2.2.1, HR.out.2.2.2]
                    exact h
                  case measure => simp [intOf]; omega
              · have hbK2 : (((bt s.data.toList K : Nat) : Int) == 45) = false := by rw [beq_eq_false_iff_ne]; omega
                clear c2
                go_wp2_with fail
                refine (nextq_any (s.extract k s.size) ⟨#[91, 93, 45, 94, 92]⟩ _ ?_).mono ?_
                · have := size_list (s.extract k s.size)
                  rw [Lib.extract_to_end, List.length_drop, HL.out] at this
                  omega
                rw [Lib.extract_to_end]
                unfold NextQ
                rw [show (⟨#[91, 93, 45, 94, 92]⟩ : ByteArray).data.toList = sgC from rfl, HNN.out]
                rintro e w2 ⟨rfl, d, rfl⟩
                replace hB := hB.drewN d
                replace hB0 := hB0.drewN d
                replace hbw := below_drewN hbw d
                clear z0 z1 z2 z3
                generalize wr.drewN d = wz at hB hB0 hbw ⊢
                have z0 : wz.cell? ⟨w.heap.size + 1, 0, none⟩ = some (.int .u64 a0) := hB.cell 0
                have z1 : wz.cell? ⟨w.heap.size + 1, 1, none⟩ = some (.int .u64 a1) := hB.cell 1
                have z2 : wz.cell? ⟨w.heap.size + 1, 2, none⟩ = some (.int .u64 a2) := hB.cell 2
                have z3 : wz.cell? ⟨w.heap.size + 1, 3, none⟩ = some (.int .u64 a3) := hB.cell 3
                go_wp2_with fail
                go_region_with (first
                  | (go_at_call 56; refine (HRG.out _).mono ?_; rintro e w4 ⟨rfl, hb4⟩
                     have hB4 := hB.drew.below hb4 hB.lt
                     have hB40 := hB0.drew.below hb4 hB0.lt
                     have hbw4 := hbw.drew.trans (hb4.mono hbw.size)
                     have y0 : w4.cell? ⟨w.heap.size + 1, 0, none⟩ = some (.int .u64 a0) := hB4.cell 0
                     have y1 : w4.cell? ⟨w.heap.size + 1, 1, none⟩ = some (.int .u64 a1) := hB4.cell 1
                     have y2 : w4.cell? ⟨w.heap.size + 1, 2, none⟩ = some (.int .u64 a2) := hB4.cell 2
                     have y3 : w4.cell? ⟨w.heap.size + 1, 3, none⟩ = some (.int .u64 a3) := hB4.cell 3)
                  | (go_at_call 135; refine (HJN.out _).mono ?_; rintro e w5 ⟨rfl, hb5⟩
                     have hB5 := hB4.below hb5 hB4.lt
                     have hB50 := hB40.below hb5 hB40.lt
                     have hbw5 := hbw4.trans (hb5.mono hbw4.size)
                     have u0 : w5.cell? ⟨w.heap.size + 1, 0, none⟩ = some (.int .u64 a0) := hB5.cell 0
                     have u1 : w5.cell? ⟨w.heap.size + 1, 1, none⟩ = some (.int .u64 a1) := hB5.cell 1
                     have u2 : w5.cell? ⟨w.heap.size + 1, 2, none⟩ = some (.int .u64 a2) := hB5.cell 2
                     have u3 : w5.cell? ⟨w.heap.size + 1, 3, none⟩ = some (.int .u64 a3) := hB5.cell 3
                     have f0 := hB5.frozen 0
                     have f1 := hB5.frozen 1
                     have f2 := hB5.frozen 2
                     have f3 := hB5.frozen 3))
                all_goals
                  go_wp2
                  go_roundw
                  case rel =>
                    refine ⟨K, f', orW acc R, by omega, by omega, by omega, by go_num, HREL, rfl, orW_words HAW.out HRW.out, ?_, (((hB50.far (by simp) _).far (by simp) _).far (by simp) _).far (by simp) _, (((hbw5.setCell (by simp) _).setCell (by simp) _).setCell (by simp) _).setCell (by simp) _⟩
                    have h := (((hB5.set_ 0 (.int .u64 ((a0 ||| r0 : Nat) : Int))).set_ 1 (.int .u64 ((a1 ||| r1 : Nat) : Int))).set_ 2 (.int .u64 ((a2 ||| r2 : Nat) : Int))).set_ 3 (.int .u64 ((a3 ||| r3 : Nat) : Int))
                    unfold orW
                    rw [List.getD_cons_zero, List.getD_cons_succ, List.getD_cons_zero, List.getD_cons_succ, List.getD_cons_succ, List.getD_cons_zero, List.getD_cons_succ, List.getD_cons_succ, List.getD_cons_succ, List.getD_cons_zero, HA.out.1, HA.out.2.1, HA.out.2.2.1, HA.out.2.2.2, HR.out.1, HR.out.2.1, HR.out.2.2.1, HR.out.2.2.2]
                    exact h
                  case measure => simp [intOf]; omega
            · have hKn : ¬ (K : Int) + 1 < (s.size : Int) := by omega
              go_wp2_with fail
              refine (nextq_any (s.extract k s.size) ⟨#[91, 93, 45, 94, 92]⟩ _ ?_).mono ?_
              · have := size_list (s.extract k s.size)
                rw [Lib.extract_to_end, List.length_drop, HL.out] at this
                omega
              rw [Lib.extract_to_end]
              unfold NextQ
              rw [show (⟨#[91, 93, 45, 94, 92]⟩ : ByteArray).data.toList = sgC from rfl, HNN.out]
              rintro e w2 ⟨rfl, d, rfl⟩
              replace hB := hB.drewN d
              replace hB0 := hB0.drewN d
              replace hbw := below_drewN hbw d
              clear z0 z1 z2 z3
              generalize wr.drewN d = wz at hB hB0 hbw ⊢
              have z0 : wz.cell? ⟨w.heap.size + 1, 0, none⟩ = some (.int .u64 a0) := hB.cell 0
              have z1 : wz.cell? ⟨w.heap.size + 1, 1, none⟩ = some (.int .u64 a1) := hB.cell 1
              have z2 : wz.cell? ⟨w.heap.size + 1, 2, none⟩ = some (.int .u64 a2) := hB.cell 2
              have z3 : wz.cell? ⟨w.heap.size + 1, 3, none⟩ = some (.int .u64 a3) := hB.cell 3
              go_wp2_with fail
              go_region_with (first
                | (go_at_call 56; refine (HRG.out _).mono ?_; rintro e w4 ⟨rfl, hb4⟩
                   have hB4 := hB.drew.below hb4 hB.lt
                   have hB40 := hB0.drew.below hb4 hB0.lt
                   have hbw4 := hbw.drew.trans (hb4.mono hbw.size)
                   have y0 : w4.cell? ⟨w.heap.size + 1, 0, none⟩ = some (.int .u64 a0) := hB4.cell 0
                   have y1 : w4.cell? ⟨w.heap.size + 1, 1, none⟩ = some (.int .u64 a1) := hB4.cell 1
                   have y2 : w4.cell? ⟨w.heap.size + 1, 2, none⟩ = some (.int .u64 a2) := hB4.cell 2
                   have y3 : w4.cell? ⟨w.heap.size + 1, 3, none⟩ = some (.int .u64 a3) := hB4.cell 3)
                | (go_at_call 135; refine (HJN.out _).mono ?_; rintro e w5 ⟨rfl, hb5⟩
                   have hB5 := hB4.below hb5 hB4.lt
                   have hB50 := hB40.below hb5 hB40.lt
                   have hbw5 := hbw4.trans (hb5.mono hbw4.size)
                   have u0 : w5.cell? ⟨w.heap.size + 1, 0, none⟩ = some (.int .u64 a0) := hB5.cell 0
                   have u1 : w5.cell? ⟨w.heap.size + 1, 1, none⟩ = some (.int .u64 a1) := hB5.cell 1
                   have u2 : w5.cell? ⟨w.heap.size + 1, 2, none⟩ = some (.int .u64 a2) := hB5.cell 2
                   have u3 : w5.cell? ⟨w.heap.size + 1, 3, none⟩ = some (.int .u64 a3) := hB5.cell 3
                   have f0 := hB5.frozen 0
                   have f1 := hB5.frozen 1
                   have f2 := hB5.frozen 2
                   have f3 := hB5.frozen 3))
              all_goals
                go_wp2
                go_roundw
                case rel =>
                  refine ⟨K, f', orW acc R, by omega, by omega, by omega, by go_num, HREL, rfl, orW_words HAW.out HRW.out, ?_, (((hB50.far (by simp) _).far (by simp) _).far (by simp) _).far (by simp) _, (((hbw5.setCell (by simp) _).setCell (by simp) _).setCell (by simp) _).setCell (by simp) _⟩
                  have h := (((hB5.set_ 0 (.int .u64 ((a0 ||| r0 : Nat) : Int))).set_ 1 (.int .u64 ((a1 ||| r1 : Nat) : Int))).set_ 2 (.int .u64 ((a2 ||| r2 : Nat) : Int))).set_ 3 (.int .u64 ((a3 ||| r3 : Nat) : Int))
                  unfold orW
                  rw [List.getD_cons_zero, List.getD_cons_succ, List.getD_cons_zero, List.getD_cons_succ, List.getD_cons_succ, List.getD_cons_zero, List.getD_cons_succ, List.getD_cons_succ, List.getD_cons_succ, List.getD_cons_zero, HA.out.1, HA.out.2.1, HA.out.2.2.1, HA.out.2.2.2, HR.out.1, HR.out.2.1, HR.out.2.2.1, HR.out.2.2.2]
                  exact h
                case measure => simp [intOf]; omega
    · obtain rfl : k = s.size := by omega
      clear hun
      have z0 : wr.cell? ⟨w.heap.size + 1, 0, none⟩ = some (.int .u64 (acc.getD 0 0 : Nat)) := hB.cell 0
      have z1 : wr.cell? ⟨w.heap.size + 1, 1, none⟩ = some (.int .u64 (acc.getD 1 0 : Nat)) := hB.cell 1
      have z2 : wr.cell? ⟨w.heap.size + 1, 2, none⟩ = some (.int .u64 (acc.getD 2 0 : Nat)) := hB.cell 2
      have z3 : wr.cell? ⟨w.heap.size + 1, 3, none⟩ = some (.int .u64 (acc.getD 3 0 : Nat)) := hB.cell 3
      have n0 : wr.cell? ⟨w.heap.size, 0, none⟩ = some (.int .u64 0) := hB0.cell 0
      have n1 : wr.cell? ⟨w.heap.size, 1, none⟩ = some (.int .u64 0) := hB0.cell 1
      have n2 : wr.cell? ⟨w.heap.size, 2, none⟩ = some (.int .u64 0) := hB0.cell 2
      have n3 : wr.cell? ⟨w.heap.size, 3, none⟩ = some (.int .u64 0) := hB0.cell 3
      have g0 := hB0.frozen 0
      have g1 := hB0.frozen 1
      have g2 := hB0.frozen 2
      have g3 := hB0.frozen 3
      go_wp2_with fail
      have hBF : Blk ((((wr.setCell ⟨w.heap.size, 0, none⟩ (.int .u64 0)).setCell ⟨w.heap.size, 1, none⟩ (.int .u64 0)).setCell ⟨w.heap.size, 2, none⟩ (.int .u64 0)).setCell ⟨w.heap.size, 3, none⟩ (.int .u64 0)) w.heap.size 24 #[.int .u64 0, .int .u64 0, .int .u64 0, .int .u64 0] := (((hB0.set_ 0 _).set_ 1 _).set_ 2 _).set_ 3 _
      have hbF : Below w.heap.size w ((((wr.setCell ⟨w.heap.size, 0, none⟩ (.int .u64 0)).setCell ⟨w.heap.size, 1, none⟩ (.int .u64 0)).setCell ⟨w.heap.size, 2, none⟩ (.int .u64 0)).setCell ⟨w.heap.size, 3, none⟩ (.int .u64 0)) := ((((hbw.setCell (Nat.le_refl _) _).setCell (Nat.le_refl _) _).setCell (Nat.le_refl _) _).setCell (Nat.le_refl _) _)
      generalize ((((wr.setCell ⟨w.heap.size, 0, none⟩ (.int .u64 0)).setCell ⟨w.heap.size, 1, none⟩ (.int .u64 0)).setCell ⟨w.heap.size, 2, none⟩ (.int .u64 0)).setCell ⟨w.heap.size, 3, none⟩ (.int .u64 0)) = W9 at hBF hbF ⊢
      have q0 : W9.cell? ⟨w.heap.size, 0, none⟩ = some (.int .u64 0) := hBF.cell 0
      have q1 : W9.cell? ⟨w.heap.size, 1, none⟩ = some (.int .u64 0) := hBF.cell 1
      have q2 : W9.cell? ⟨w.heap.size, 2, none⟩ = some (.int .u64 0) := hBF.cell 2
      have q3 : W9.cell? ⟨w.heap.size, 3, none⟩ = some (.int .u64 0) := hBF.cell 3
      refine bodyPost_ret (v := .tuple #[.agg #[.int .u64 0, .int .u64 0, .int .u64 0, .int .u64 0], .int .i64 0, .int .i64 4]) (by simp [results, Tryd.results116, go_sem, q0, q1, q2, q3]) rfl ⟨rfl, hbF⟩
set_option maxRecDepth 100000 in
theorem unclass_no0 (s : ByteArray) (w : World) (h1s : s.size = 1) (hq : bt s.data.toList 0 = 91) :
    Calls Tryd.prog 116 #[.string s] w fun e w' => e = .returned (.tuple #[.agg #[.int .u64 0, .int .u64 0, .int .u64 0, .int .u64 0], .int .i64 0, .int .i64 4]) ∧ Below w.heap.size w w' := by
  have HL := Lib.hid (size_list s)
  have h0 : 0 < s.size := by omega
  have hb0 := bt_of h0
  rw [hq] at hb0
  have hne : (s.toList.isEmpty) = false := by
    rw [ByteArray.toList_eq]
    cases h : s.data.toList with
    | nil => have := HL.out; rw [h] at this; simp at this; omega
    | cons => rfl
  have hn1 : ¬ (1 : Int) < (s.size : Int) := by omega
  clear hq
  go_enter Tryd.func116, Tryd.ntmps116
  go_wp2_with fail
  go_loopw [6] (fun i wr => i = .int .i64 1 ∧ Blk wr (w.heap.size + 1) 24 #[.int .u64 0, .int .u64 0, .int .u64 0, .int .u64 0] ∧ Blk wr w.heap.size 24 #[.int .u64 0, .int .u64 0, .int .u64 0, .int .u64 0] ∧ Below w.heap.size w wr) (fun _ _ => 0)
  case atStart => exact ⟨rfl, blk_at (by simp), (blk_at rfl).alloc _, (by repeat (first | exact Below.refl _ _ | assumption | refine Below.drew ?_ | refine below_drewN ?_ _ | refine Below.alloc ?_ (by first | omega | (simp; omega) | simp) _ | refine Below.setCell ?_ (by first | omega | (simp; omega) | simp) _))⟩
  case round =>
    obtain ⟨rfl, hB, hB0, hbw⟩ := hrel
    have n0 : wr.cell? ⟨w.heap.size, 0, none⟩ = some (.int .u64 0) := hB0.cell 0
    have n1 : wr.cell? ⟨w.heap.size, 1, none⟩ = some (.int .u64 0) := hB0.cell 1
    have n2 : wr.cell? ⟨w.heap.size, 2, none⟩ = some (.int .u64 0) := hB0.cell 2
    have n3 : wr.cell? ⟨w.heap.size, 3, none⟩ = some (.int .u64 0) := hB0.cell 3
    have g0 := hB0.frozen 0
    have g1 := hB0.frozen 1
    have g2 := hB0.frozen 2
    have g3 := hB0.frozen 3
    go_wp2_with fail
    have hBF : Blk ((((wr.setCell ⟨w.heap.size, 0, none⟩ (.int .u64 0)).setCell ⟨w.heap.size, 1, none⟩ (.int .u64 0)).setCell ⟨w.heap.size, 2, none⟩ (.int .u64 0)).setCell ⟨w.heap.size, 3, none⟩ (.int .u64 0)) w.heap.size 24 #[.int .u64 0, .int .u64 0, .int .u64 0, .int .u64 0] := (((hB0.set_ 0 _).set_ 1 _).set_ 2 _).set_ 3 _
    have hbF : Below w.heap.size w ((((wr.setCell ⟨w.heap.size, 0, none⟩ (.int .u64 0)).setCell ⟨w.heap.size, 1, none⟩ (.int .u64 0)).setCell ⟨w.heap.size, 2, none⟩ (.int .u64 0)).setCell ⟨w.heap.size, 3, none⟩ (.int .u64 0)) := ((((hbw.setCell (Nat.le_refl _) _).setCell (Nat.le_refl _) _).setCell (Nat.le_refl _) _).setCell (Nat.le_refl _) _)
    generalize ((((wr.setCell ⟨w.heap.size, 0, none⟩ (.int .u64 0)).setCell ⟨w.heap.size, 1, none⟩ (.int .u64 0)).setCell ⟨w.heap.size, 2, none⟩ (.int .u64 0)).setCell ⟨w.heap.size, 3, none⟩ (.int .u64 0)) = W9 at hBF hbF ⊢
    have q0 : W9.cell? ⟨w.heap.size, 0, none⟩ = some (.int .u64 0) := hBF.cell 0
    have q1 : W9.cell? ⟨w.heap.size, 1, none⟩ = some (.int .u64 0) := hBF.cell 1
    have q2 : W9.cell? ⟨w.heap.size, 2, none⟩ = some (.int .u64 0) := hBF.cell 2
    have q3 : W9.cell? ⟨w.heap.size, 3, none⟩ = some (.int .u64 0) := hBF.cell 3
    refine bodyPost_ret (v := .tuple #[.agg #[.int .u64 0, .int .u64 0, .int .u64 0, .int .u64 0], .int .i64 0, .int .i64 4]) (by simp [results, Tryd.results116, go_sem, q0, q1, q2, q3]) rfl ⟨rfl, hbF⟩
end Go.Proofs.YtndhbdbfjkmloaaDoor
