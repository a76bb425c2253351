/- What code.Check answers. -/
import Derived.Test.YtphfckihdhmhpaaCmC
import Derived.Deep.DeepCutAuto
import Derived.Deep.RegionLawGrows
namespace Go.Proofs.Ytphfckihdhmhpaa
open Go.RowKit

theorem okIn_no {m : Nat} {x : In} (h : okIn m x = false) : x.op < 1 ∨ (1 ≤ x.op ∧ 11 < x.op) ∨ (1 ≤ x.op ∧ x.op ≤ 11 ∧ x.n < 0) ∨ (1 ≤ x.op ∧ x.op ≤ 11 ∧ 0 ≤ x.n ∧ (if jumpsB x.op then (m : Int) - 1 else 0) < x.n) ∨
    (1 ≤ x.op ∧ x.op ≤ 11 ∧ 0 ≤ x.n ∧ x.n ≤ (if jumpsB x.op then (m : Int) - 1 else 0) ∧ x.op ≠ 1 ∧ x.zero = false) := by
  unfold okIn at h
  generalize (if jumpsB x.op then (m : Int) - 1 else 0) = M at h ⊢
  simp only [Bool.and_eq_false_iff, Bool.or_eq_false_iff, decide_eq_false_iff_not] at h
  by_cases h1 : x.op < 1
  · exact .inl h1
  by_cases h2 : 11 < x.op
  · exact .inr (.inl ⟨by omega, h2⟩)
  by_cases h3 : x.n < 0
  · exact .inr (.inr (.inl ⟨by omega, by omega, h3⟩))
  by_cases h4 : M < x.n
  · exact .inr (.inr (.inr (.inl ⟨by omega, by omega, by omega, h4⟩)))
  refine .inr (.inr (.inr (.inr ⟨by omega, by omega, by omega, by omega, ?_⟩)))
  rcases h with ((((h | h) | h) | h) | h)
  · omega
  · omega
  · omega
  · omega
  · exact h
theorem okIn_yes {m : Nat} {x : In} (h : okIn m x = true) : 1 ≤ x.op ∧ x.op ≤ 11 ∧ 0 ≤ x.n ∧ x.n ≤ (if jumpsB x.op then (m : Int) - 1 else 0) ∧ (x.op = 1 ∨ (x.op ≠ 1 ∧ x.zero = true)) := by
  unfold okIn at h
  generalize (if jumpsB x.op then (m : Int) - 1 else 0) = M at h ⊢
  simp only [Bool.and_eq_true, Bool.or_eq_true, decide_eq_true_iff] at h
  obtain ⟨⟨⟨⟨h1, h2⟩, h3⟩, h4⟩, h5⟩ := h
  refine ⟨h1, h2, h3, h4, ?_⟩
  by_cases h6 : x.op = 1
  · exact .inl h6
  · exact .inr ⟨h6, h5.resolve_left h6⟩

set_option maxRecDepth 100000 in
set_option maxHeartbeats 8000000 in
theorem checkM_any (A : Option Addr) (n c : Nat) (l : List In) (B : Nat) (w : World) (hr : Reads w B 6 A n (inCells l)) (hB : B ≤ w.heap.size) (hn : n ≤ maxLen) :
    Calls Try.prog 46 #[.slice A n c] w fun e w' => e = .returned (.int .i64 (checkM l)) ∧ Below w.heap.size w w' := by
  have HL := Lib.hid hr.in_len
  unfold maxLen at hn
  by_cases hbig : 6000 < n
  · have HC : Hid (checkM l = 2) := by show checkM l = 2; unfold checkM; rw [if_pos (by rw [HL.out]; exact hbig)]
    rw [HC.out]
    go_enter Try.func46, Try.ntmps46
    go_wp2
    go_ret
    exact ⟨rfl, Below.refl _ _⟩
  have HC : Hid (checkM l = if l.all (okIn n) then 0 else 3) := by show checkM l = _; unfold checkM; rw [if_neg (by rw [HL.out]; exact hbig), HL.out]
  generalize checkM l = R at HC ⊢
  go_enter Try.func46, Try.ntmps46
  go_wp2
  go_loopw [11] (fun i wr => ∃ j : Nat, j ≤ n ∧ i = .int .i64 j ∧ Hid (∀ x ∈ l.take j, okIn n x = true) ∧ Below w.heap.size w wr) (fun i _ => n - (intOf i).toNat)
  case atStart => exact ⟨0, by omega, rfl, (fun _ h => by simp at h), (by repeat (first | exact Below.refl _ _ | assumption | refine Below.drew ?_ | refine below_drewN ?_ _ | refine Below.alloc ?_ (by first | omega | (simp; omega) | simp) _ | refine Below.setCell ?_ (by first | omega | (simp; omega) | simp) _))⟩
  case round =>
    obtain ⟨j, hj, rfl, HP, hbw⟩ := hrel
    have hsz := hbw.size
    by_cases hjn : j < n
    · obtain ⟨ad, x, rfl, hab, hx, z0, z1, z2, z3, z4, z5⟩ := (hr.below (hbw.mono hB)).in_at hjn
      have hab2 : (ad.add (j * 6)).block < wr.heap.size := by omega
      have HX := Lib.hid hx
      obtain ⟨op, nn, a, b, c, d⟩ := x
      dsimp only at z0 z1 z2 z3 z4 z5
      have hj0 : (0 : Int) ≤ (j : Int) := by omega
      have hj1 : (j : Int) < (n : Int) := by omega
      obtain ⟨M, hM⟩ : ∃ M : Int, M = if jumpsB op then (n : Int) - 1 else 0 := ⟨_, rfl⟩
      have hyes := okIn_yes (m := n) (x := ⟨op, nn, a, b, c, d⟩)
      have hno := okIn_no (m := n) (x := ⟨op, nn, a, b, c, d⟩)
      rw [← hM] at hyes hno
      dsimp only at hM hyes hno
      have HJ := Lib.hid (jumps_any op)
      have hq := fun w => run_same_set w (a : Int) (b : Int) (c : Int) (d : Int) 0 0 0 0
      have hz : ((a : Int) == 0 && ((b : Int) == 0 && ((c : Int) == 0 && (d : Int) == 0))) = In.zero ⟨op, nn, a, b, c, d⟩ := rfl
      rw [hz] at hq
      generalize In.zero ⟨op, nn, a, b, c, d⟩ = z at hq hyes hno
      generalize jumpsB op = J at hM HJ
      cases hok : okIn n ⟨op, nn, a, b, c, d⟩
      · have HNO : Hid (l.all (okIn n) = false) := by
          show l.all (okIn n) = false
          rw [List.all_eq_false]
          exact ⟨_, List.mem_of_getElem? HX.out, by rw [hok]; simp⟩
        have HR3 : Hid (R = 3) := by show R = 3; rw [HC.out, HNO.out]; rfl
        have h5 := hno hok
        clear hyes hno hok
        rcases h5 with h | ⟨p1, h⟩ | ⟨p1, p2, h⟩ | ⟨p1, p2, p3, h⟩ | ⟨p1, p2, p3, p4, h1, h'⟩
        · skip
          have d1 : decide (op < 1) = true := decide_eq_true (by omega)
          clear h
          clear HX HC HP hr hz HL hx
          cases J
          all_goals
            first | replace hM : M = 0 := hM | replace hM : M = (n : Int) - 1 := hM
            subst hM
            go_wp2_with fail
            refine (HJ.out _).mono ?_
            rintro e w' ⟨rfl, rfl⟩
            go_upto_region 9 with fail
            have hbx : Blk (wr.alloc (.cells #[.int .i64 op, .int .i64 nn, .int .u64 (a : Int), .int .u64 (b : Int), .int .u64 (c : Int), .int .u64 (d : Int)] 89)) wr.heap.size 89 #[.int .i64 op, .int .i64 nn, .int .u64 (a : Int), .int .u64 (b : Int), .int .u64 (c : Int), .int .u64 (d : Int)] := blk_at rfl
            have hb9 : Below w.heap.size w (wr.alloc (.cells #[.int .i64 op, .int .i64 nn, .int .u64 (a : Int), .int .u64 (b : Int), .int .u64 (c : Int), .int .u64 (d : Int)] 89)) := hbw.alloc hsz _
            generalize hW : (wr.alloc (.cells #[.int .i64 op, .int .i64 nn, .int .u64 (a : Int), .int .u64 (b : Int), .int .u64 (c : Int), .int .u64 (d : Int)] 89)) = W1 at hbx hb9 ⊢
            clear hW z0 z1 z2 z3 z4 z5 HJ
            have z0 : W1.cell? ⟨wr.heap.size, 0, none⟩ = some (.int .i64 op) := hbx.cell 0
            have z1 : W1.cell? ⟨wr.heap.size, 1, none⟩ = some (.int .i64 nn) := hbx.cell 1
            have z2 : W1.cell? ⟨wr.heap.size, 2, none⟩ = some (.int .u64 (a : Int)) := hbx.cell 2
            have z3 : W1.cell? ⟨wr.heap.size, 3, none⟩ = some (.int .u64 (b : Int)) := hbx.cell 3
            have z4 : W1.cell? ⟨wr.heap.size, 4, none⟩ = some (.int .u64 (c : Int)) := hbx.cell 4
            have z5 : W1.cell? ⟨wr.heap.size, 5, none⟩ = some (.int .u64 (d : Int)) := hbx.cell 5
            generalize wr.heap.size = q at z0 z1 z2 z3 z4 z5 ⊢
            go_wp2
            go_ret
            exact ⟨by rw [HR3.out]; rfl, hb9⟩
        · skip
          have d1 : decide (op < 1) = false := decide_eq_false (by omega)
          have d2 : decide (11 < op) = true := decide_eq_true (by omega)
          clear h p1
          clear HX HC HP hr hz HL hx
          cases J
          all_goals
            first | replace hM : M = 0 := hM | replace hM : M = (n : Int) - 1 := hM
            subst hM
            go_wp2_with fail
            refine (HJ.out _).mono ?_
            rintro e w' ⟨rfl, rfl⟩
            go_upto_region 9 with fail
            have hbx : Blk (wr.alloc (.cells #[.int .i64 op, .int .i64 nn, .int .u64 (a : Int), .int .u64 (b : Int), .int .u64 (c : Int), .int .u64 (d : Int)] 89)) wr.heap.size 89 #[.int .i64 op, .int .i64 nn, .int .u64 (a : Int), .int .u64 (b : Int), .int .u64 (c : Int), .int .u64 (d : Int)] := blk_at rfl
            have hb9 : Below w.heap.size w (wr.alloc (.cells #[.int .i64 op, .int .i64 nn, .int .u64 (a : Int), .int .u64 (b : Int), .int .u64 (c : Int), .int .u64 (d : Int)] 89)) := hbw.alloc hsz _
            generalize hW : (wr.alloc (.cells #[.int .i64 op, .int .i64 nn, .int .u64 (a : Int), .int .u64 (b : Int), .int .u64 (c : Int), .int .u64 (d : Int)] 89)) = W1 at hbx hb9 ⊢
            clear hW z0 z1 z2 z3 z4 z5 HJ
            have z0 : W1.cell? ⟨wr.heap.size, 0, none⟩ = some (.int .i64 op) := hbx.cell 0
            have z1 : W1.cell? ⟨wr.heap.size, 1, none⟩ = some (.int .i64 nn) := hbx.cell 1
            have z2 : W1.cell? ⟨wr.heap.size, 2, none⟩ = some (.int .u64 (a : Int)) := hbx.cell 2
            have z3 : W1.cell? ⟨wr.heap.size, 3, none⟩ = some (.int .u64 (b : Int)) := hbx.cell 3
            have z4 : W1.cell? ⟨wr.heap.size, 4, none⟩ = some (.int .u64 (c : Int)) := hbx.cell 4
            have z5 : W1.cell? ⟨wr.heap.size, 5, none⟩ = some (.int .u64 (d : Int)) := hbx.cell 5
            generalize wr.heap.size = q at z0 z1 z2 z3 z4 z5 ⊢
            go_wp2
            go_ret
            exact ⟨by rw [HR3.out]; rfl, hb9⟩
        · skip
          have d1 : decide (op < 1) = false := decide_eq_false (by omega)
          have d2 : decide (11 < op) = false := decide_eq_false (by omega)
          have d3 : decide (nn < 0) = true := decide_eq_true (by omega)
          clear h p1 p2
          clear HX HC HP hr hz HL hx
          cases J
          all_goals
            first | replace hM : M = 0 := hM | replace hM : M = (n : Int) - 1 := hM
            subst hM
            go_wp2_with fail
            refine (HJ.out _).mono ?_
            rintro e w' ⟨rfl, rfl⟩
            go_upto_region 9 with fail
            have hbx : Blk (wr.alloc (.cells #[.int .i64 op, .int .i64 nn, .int .u64 (a : Int), .int .u64 (b : Int), .int .u64 (c : Int), .int .u64 (d : Int)] 89)) wr.heap.size 89 #[.int .i64 op, .int .i64 nn, .int .u64 (a : Int), .int .u64 (b : Int), .int .u64 (c : Int), .int .u64 (d : Int)] := blk_at rfl
            have hb9 : Below w.heap.size w (wr.alloc (.cells #[.int .i64 op, .int .i64 nn, .int .u64 (a : Int), .int .u64 (b : Int), .int .u64 (c : Int), .int .u64 (d : Int)] 89)) := hbw.alloc hsz _
            generalize hW : (wr.alloc (.cells #[.int .i64 op, .int .i64 nn, .int .u64 (a : Int), .int .u64 (b : Int), .int .u64 (c : Int), .int .u64 (d : Int)] 89)) = W1 at hbx hb9 ⊢
            clear hW z0 z1 z2 z3 z4 z5 HJ
            have z0 : W1.cell? ⟨wr.heap.size, 0, none⟩ = some (.int .i64 op) := hbx.cell 0
            have z1 : W1.cell? ⟨wr.heap.size, 1, none⟩ = some (.int .i64 nn) := hbx.cell 1
            have z2 : W1.cell? ⟨wr.heap.size, 2, none⟩ = some (.int .u64 (a : Int)) := hbx.cell 2
            have z3 : W1.cell? ⟨wr.heap.size, 3, none⟩ = some (.int .u64 (b : Int)) := hbx.cell 3
            have z4 : W1.cell? ⟨wr.heap.size, 4, none⟩ = some (.int .u64 (c : Int)) := hbx.cell 4
            have z5 : W1.cell? ⟨wr.heap.size, 5, none⟩ = some (.int .u64 (d : Int)) := hbx.cell 5
            generalize wr.heap.size = q at z0 z1 z2 z3 z4 z5 ⊢
            go_wp2
            go_ret
            exact ⟨by rw [HR3.out]; rfl, hb9⟩
        · skip
          have d1 : decide (op < 1) = false := decide_eq_false (by omega)
          have d2 : decide (11 < op) = false := decide_eq_false (by omega)
          have d3 : decide (nn < 0) = false := decide_eq_false (by omega)
          have d4 : decide (M < nn) = true := decide_eq_true (by omega)
          clear h p1 p2 p3
          clear HX HC HP hr hz HL hx
          cases J
          all_goals
            first | replace hM : M = 0 := hM | replace hM : M = (n : Int) - 1 := hM
            subst hM
            go_wp2_with fail
            refine (HJ.out _).mono ?_
            rintro e w' ⟨rfl, rfl⟩
            go_upto_region 9 with fail
            have hbx : Blk (wr.alloc (.cells #[.int .i64 op, .int .i64 nn, .int .u64 (a : Int), .int .u64 (b : Int), .int .u64 (c : Int), .int .u64 (d : Int)] 89)) wr.heap.size 89 #[.int .i64 op, .int .i64 nn, .int .u64 (a : Int), .int .u64 (b : Int), .int .u64 (c : Int), .int .u64 (d : Int)] := blk_at rfl
            have hb9 : Below w.heap.size w (wr.alloc (.cells #[.int .i64 op, .int .i64 nn, .int .u64 (a : Int), .int .u64 (b : Int), .int .u64 (c : Int), .int .u64 (d : Int)] 89)) := hbw.alloc hsz _
            generalize hW : (wr.alloc (.cells #[.int .i64 op, .int .i64 nn, .int .u64 (a : Int), .int .u64 (b : Int), .int .u64 (c : Int), .int .u64 (d : Int)] 89)) = W1 at hbx hb9 ⊢
            clear hW z0 z1 z2 z3 z4 z5 HJ
            have z0 : W1.cell? ⟨wr.heap.size, 0, none⟩ = some (.int .i64 op) := hbx.cell 0
            have z1 : W1.cell? ⟨wr.heap.size, 1, none⟩ = some (.int .i64 nn) := hbx.cell 1
            have z2 : W1.cell? ⟨wr.heap.size, 2, none⟩ = some (.int .u64 (a : Int)) := hbx.cell 2
            have z3 : W1.cell? ⟨wr.heap.size, 3, none⟩ = some (.int .u64 (b : Int)) := hbx.cell 3
            have z4 : W1.cell? ⟨wr.heap.size, 4, none⟩ = some (.int .u64 (c : Int)) := hbx.cell 4
            have z5 : W1.cell? ⟨wr.heap.size, 5, none⟩ = some (.int .u64 (d : Int)) := hbx.cell 5
            generalize wr.heap.size = q at z0 z1 z2 z3 z4 z5 ⊢
            go_wp2
            go_ret
            exact ⟨by rw [HR3.out]; rfl, hb9⟩
        · skip
          have d1 : decide (op < 1) = false := decide_eq_false (by omega)
          have d2 : decide (11 < op) = false := decide_eq_false (by omega)
          have d3 : decide (nn < 0) = false := decide_eq_false (by omega)
          have d4 : decide (M < nn) = false := decide_eq_false (by omega)
          have d5 : (op != 1) = true := by rw [bne_iff_ne]; exact h1
          subst h'
          clear h1 p1 p2 p3 p4
          clear HX HC HP hr hz HL hx
          cases J
          all_goals
            first | replace hM : M = 0 := hM | replace hM : M = (n : Int) - 1 := hM
            subst hM
            go_wp2_with fail
            refine (HJ.out _).mono ?_
            rintro e w' ⟨rfl, rfl⟩
            go_upto_region 9 with fail
            have hbx : Blk (wr.alloc (.cells #[.int .i64 op, .int .i64 nn, .int .u64 (a : Int), .int .u64 (b : Int), .int .u64 (c : Int), .int .u64 (d : Int)] 89)) wr.heap.size 89 #[.int .i64 op, .int .i64 nn, .int .u64 (a : Int), .int .u64 (b : Int), .int .u64 (c : Int), .int .u64 (d : Int)] := blk_at rfl
            have hb9 : Below w.heap.size w (wr.alloc (.cells #[.int .i64 op, .int .i64 nn, .int .u64 (a : Int), .int .u64 (b : Int), .int .u64 (c : Int), .int .u64 (d : Int)] 89)) := hbw.alloc hsz _
            generalize hW : (wr.alloc (.cells #[.int .i64 op, .int .i64 nn, .int .u64 (a : Int), .int .u64 (b : Int), .int .u64 (c : Int), .int .u64 (d : Int)] 89)) = W1 at hbx hb9 ⊢
            clear hW z0 z1 z2 z3 z4 z5 HJ
            have z0 : W1.cell? ⟨wr.heap.size, 0, none⟩ = some (.int .i64 op) := hbx.cell 0
            have z1 : W1.cell? ⟨wr.heap.size, 1, none⟩ = some (.int .i64 nn) := hbx.cell 1
            have z2 : W1.cell? ⟨wr.heap.size, 2, none⟩ = some (.int .u64 (a : Int)) := hbx.cell 2
            have z3 : W1.cell? ⟨wr.heap.size, 3, none⟩ = some (.int .u64 (b : Int)) := hbx.cell 3
            have z4 : W1.cell? ⟨wr.heap.size, 4, none⟩ = some (.int .u64 (c : Int)) := hbx.cell 4
            have z5 : W1.cell? ⟨wr.heap.size, 5, none⟩ = some (.int .u64 (d : Int)) := hbx.cell 5
            generalize wr.heap.size = q at z0 z1 z2 z3 z4 z5 ⊢
            go_wp2
            go_ret
            exact ⟨by rw [HR3.out]; rfl, hb9⟩
      · have HP2 : Hid (∀ y ∈ l.take (j + 1), okIn n y = true) := fun y hy => by
          rw [take_succ_of HX.out, List.mem_append] at hy
          rcases hy with hy | hy
          · exact HP.out y hy
          · simp at hy; rw [hy]; exact hok
        obtain ⟨o1, o2, o3, o4, o5⟩ := hyes hok
        clear hyes hno hok
        rcases o5 with h | ⟨h, h'⟩
        · skip
          have d1 : decide (op < 1) = false := decide_eq_false (by omega)
          have d2 : decide (11 < op) = false := decide_eq_false (by omega)
          have d3 : decide (nn < 0) = false := decide_eq_false (by omega)
          have d4 : decide (M < nn) = false := decide_eq_false (by omega)
          have d5 : (op != 1) = false := by rw [h]; rfl
          clear h o1 o2 o3 o4
          clear HX HC HP hr hz HL hx
          cases J
          all_goals
            first | replace hM : M = 0 := hM | replace hM : M = (n : Int) - 1 := hM
            subst hM
            go_wp2_with fail
            refine (HJ.out _).mono ?_
            rintro e w' ⟨rfl, rfl⟩
            go_upto_region 9 with fail
            have hbx : Blk (wr.alloc (.cells #[.int .i64 op, .int .i64 nn, .int .u64 (a : Int), .int .u64 (b : Int), .int .u64 (c : Int), .int .u64 (d : Int)] 89)) wr.heap.size 89 #[.int .i64 op, .int .i64 nn, .int .u64 (a : Int), .int .u64 (b : Int), .int .u64 (c : Int), .int .u64 (d : Int)] := blk_at rfl
            have hb9 : Below w.heap.size w (wr.alloc (.cells #[.int .i64 op, .int .i64 nn, .int .u64 (a : Int), .int .u64 (b : Int), .int .u64 (c : Int), .int .u64 (d : Int)] 89)) := hbw.alloc hsz _
            generalize hW : (wr.alloc (.cells #[.int .i64 op, .int .i64 nn, .int .u64 (a : Int), .int .u64 (b : Int), .int .u64 (c : Int), .int .u64 (d : Int)] 89)) = W1 at hbx hb9 ⊢
            clear hW z0 z1 z2 z3 z4 z5 HJ
            have z0 : W1.cell? ⟨wr.heap.size, 0, none⟩ = some (.int .i64 op) := hbx.cell 0
            have z1 : W1.cell? ⟨wr.heap.size, 1, none⟩ = some (.int .i64 nn) := hbx.cell 1
            have z2 : W1.cell? ⟨wr.heap.size, 2, none⟩ = some (.int .u64 (a : Int)) := hbx.cell 2
            have z3 : W1.cell? ⟨wr.heap.size, 3, none⟩ = some (.int .u64 (b : Int)) := hbx.cell 3
            have z4 : W1.cell? ⟨wr.heap.size, 4, none⟩ = some (.int .u64 (c : Int)) := hbx.cell 4
            have z5 : W1.cell? ⟨wr.heap.size, 5, none⟩ = some (.int .u64 (d : Int)) := hbx.cell 5
            generalize wr.heap.size = q at z0 z1 z2 z3 z4 z5 ⊢
            go_wp2
            go_roundw
            case rel => exact ⟨j + 1, by omega, by go_num, HP2, hb9⟩
            case measure => simp [intOf]; omega
        · skip
          have d1 : decide (op < 1) = false := decide_eq_false (by omega)
          have d2 : decide (11 < op) = false := decide_eq_false (by omega)
          have d3 : decide (nn < 0) = false := decide_eq_false (by omega)
          have d4 : decide (M < nn) = false := decide_eq_false (by omega)
          have d5 : (op != 1) = true := by rw [bne_iff_ne]; exact h
          subst h'
          clear h o1 o2 o3 o4
          clear HX HC HP hr hz HL hx
          cases J
          all_goals
            first | replace hM : M = 0 := hM | replace hM : M = (n : Int) - 1 := hM
            subst hM
            go_wp2_with fail
            refine (HJ.out _).mono ?_
            rintro e w' ⟨rfl, rfl⟩
            go_upto_region 9 with fail
            have hbx : Blk (wr.alloc (.cells #[.int .i64 op, .int .i64 nn, .int .u64 (a : Int), .int .u64 (b : Int), .int .u64 (c : Int), .int .u64 (d : Int)] 89)) wr.heap.size 89 #[.int .i64 op, .int .i64 nn, .int .u64 (a : Int), .int .u64 (b : Int), .int .u64 (c : Int), .int .u64 (d : Int)] := blk_at rfl
            have hb9 : Below w.heap.size w (wr.alloc (.cells #[.int .i64 op, .int .i64 nn, .int .u64 (a : Int), .int .u64 (b : Int), .int .u64 (c : Int), .int .u64 (d : Int)] 89)) := hbw.alloc hsz _
            generalize hW : (wr.alloc (.cells #[.int .i64 op, .int .i64 nn, .int .u64 (a : Int), .int .u64 (b : Int), .int .u64 (c : Int), .int .u64 (d : Int)] 89)) = W1 at hbx hb9 ⊢
            clear hW z0 z1 z2 z3 z4 z5 HJ
            have z0 : W1.cell? ⟨wr.heap.size, 0, none⟩ = some (.int .i64 op) := hbx.cell 0
            have z1 : W1.cell? ⟨wr.heap.size, 1, none⟩ = some (.int .i64 nn) := hbx.cell 1
            have z2 : W1.cell? ⟨wr.heap.size, 2, none⟩ = some (.int .u64 (a : Int)) := hbx.cell 2
            have z3 : W1.cell? ⟨wr.heap.size, 3, none⟩ = some (.int .u64 (b : Int)) := hbx.cell 3
            have z4 : W1.cell? ⟨wr.heap.size, 4, none⟩ = some (.int .u64 (c : Int)) := hbx.cell 4
            have z5 : W1.cell? ⟨wr.heap.size, 5, none⟩ = some (.int .u64 (d : Int)) := hbx.cell 5
            generalize wr.heap.size = q at z0 z1 z2 z3 z4 z5 ⊢
            go_wp2
            go_roundw
            case rel => exact ⟨j + 1, by omega, by go_num, HP2, hb9⟩
            case measure => simp [intOf]; omega
    · obtain rfl : j = n := by omega
      have HALL : Hid (l.all (okIn j) = true) := by
        show l.all (okIn j) = true
        rw [List.all_eq_true]
        intro x hx
        exact HP.out x (by rw [List.take_of_length_le (by rw [HL.out]; omega)]; exact hx)
      have HR0 : Hid (R = 0) := by show R = 0; rw [HC.out, HALL.out]; rfl
      go_wp2
      go_ret
      exact ⟨by rw [HR0.out]; rfl, hbw⟩
end Go.Proofs.Ytphfckihdhmhpaa
