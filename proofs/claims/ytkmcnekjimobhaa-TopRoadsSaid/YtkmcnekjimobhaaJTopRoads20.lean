/- What code.Check answers. The machine of package code: Run. -/
import Derived.Test.YtkmcnekjimobhaaJTopRoads0
import Derived.Deep.DeepCutAuto
import Derived.Deep.RegionLawGrows
import Derived.Test.YtkmcnekjimobhaaJTopRoads19
namespace Go.Proofs.Ytkmcnekjimobhaa
set_option maxHeartbeats 8000000
set_option maxRecDepth 100000
open Go.RowKit
theorem okIn_no {m : Nat} {x : In} (h : okIn m x = false) : x.op < 1 \/ (1 <= x.op /\ 11 < x.op) \/ (1 <= x.op /\ x.op <= 11 /\ x.n < 0) \/ (1 <= x.op /\ x.op <= 11 /\ 0 <= x.n /\ (if jumpsB x.op then (m : Int) - 1 else 0) < x.n) \/
    (1 <= x.op /\ x.op <= 11 /\ 0 <= x.n /\ x.n <= (if jumpsB x.op then (m : Int) - 1 else 0) /\ x.op ≠ 1 /\ x.zero = false) := by
  unfold okIn at h
  generalize (if jumpsB x.op then (m : Int) - 1 else 0) = M at h ⊢
  simp only [Bool.and_eq_false_iff, Bool.or_eq_false_iff, decide_eq_false_iff_not] at h
  by_cases h1 : x.op < 1
  · exact .inl h1
  by_cases h2 : 11 < x.op
  · exact .inr (.inl ⟨by omega, h2⟩)
  by_cases h3 : x.n < 0
  · exact .inr (.inr (.inl ⟨by omega, by omega, h3⟩))
  by_cases h4 : M < x.n
  · exact .inr (.inr (.inr (.inl ⟨by omega, by omega, by omega, h4⟩)))
  refine .inr (.inr (.inr (.inr ⟨by omega, by omega, by omega, by omega, ?_⟩)))
  rcases h with ((((h | h) | h) | h) | h)
  · omega
  · omega
  · omega
  · omega
  · exact h
theorem okIn_yes {m : Nat} {x : In} (h : okIn m x = true) : 1 <= x.op /\ x.op <= 11 /\ 0 <= x.n /\ x.n <= (if jumpsB x.op then (m : Int) - 1 else 0) /\ (x.op = 1 \/ (x.op ≠ 1 /\ x.zero = true)) := by
  unfold okIn at h
  generalize (if jumpsB x.op then (m : Int) - 1 else 0) = M at h ⊢
  simp only [Bool.and_eq_true, Bool.or_eq_true, decide_eq_true_iff] at h
  obtain ⟨⟨⟨⟨h1, h2⟩, h3⟩, h4⟩, h5⟩ := h
  refine ⟨h1, h2, h3, h4, ?_⟩
  by_cases h6 : x.op = 1
  · exact .inl h6
  · exact .inr ⟨h6, h5.resolve_left h6⟩
theorem checkM_any (A : Option Addr) (n c : Nat) (l : List In) (B : Nat) (w : World) (hr : Reads w B 6 A n (inCells l)) (hB : B <= w.heap.size) (hn : n <= maxLen) :
    Calls Try.prog 25 #[.slice A n c] w fun e w' => e = .returned (.int .i64 (checkM l)) /\ Below w.heap.size w w' := by
  have HL := Lib.hid hr.in_len
  unfold maxLen at hn
  by_cases hbig : 6000 < n
  · have HC : Hid (checkM l = 2) := by show checkM l = 2; unfold checkM; rw [if_pos (by rw [HL.out]; exact hbig)]
    rw [HC.out]
    go_enter Try.func25, Try.ntmps25
    go_wp2
    go_ret
    exact ⟨rfl, Below.refl _ _⟩
  have HC : Hid (checkM l = if l.all (okIn n) then 0 else 3) := by show checkM l = _; unfold checkM; rw [if_neg (by rw [HL.out]; exact hbig), HL.out]
  generalize checkM l = R at HC ⊢
  go_enter Try.func25, Try.ntmps25
  go_wp2
  go_loopw [11] (fun i wr => ∃ j : Nat, j <= n /\ i = .int .i64 j /\ Hid (∀ x ∈ l.take j, okIn n x = true) /\ Below w.heap.size w wr) (fun i _ => n - (intOf i).toNat)
  case atStart => exact ⟨0, by omega, rfl, (fun _ h => by simp at h), bl⟩
  case round =>
    obtain ⟨j, hj, rfl, HP, hbw⟩ := hrel
    have hsz := hbw.size
    by_cases hjn : j < n
    · obtain ⟨ad, x, rfl, hab, hx, z0, z1, z2, z3, z4, z5⟩ := (hr.below (hbw.mono hB)).in_at hjn
      have hab2 : (ad.add (j * 6)).block < wr.heap.size := by omega
      have HX := Lib.hid hx
      obtain ⟨op, nn, a, b, c, d⟩ := x
      dsimp only at z0 z1 z2 z3 z4 z5
      have hj0 : (0 : Int) <= (j : Int) := by omega
      have hj1 : (j : Int) < (n : Int) := by omega
      obtain ⟨M, hM⟩ : ∃ M : Int, M = if jumpsB op then (n : Int) - 1 else 0 := ⟨_, rfl⟩
      have hyes := okIn_yes (m := n) (x := ⟨op, nn, a, b, c, d⟩)
      have hno := okIn_no (m := n) (x := ⟨op, nn, a, b, c, d⟩)
      rw [<- hM] at hyes hno
      dsimp only at hM hyes hno
      have HJ := Lib.hid (jumps_any op)
      have hq := fun w => run_same_set w (a : Int) (b : Int) (c : Int) (d : Int) 0 0 0 0
      have hz : ((a : Int) == 0 && ((b : Int) == 0 && ((c : Int) == 0 && (d : Int) == 0))) = In.zero ⟨op, nn, a, b, c, d⟩ := rfl
      rw [hz] at hq
      generalize In.zero ⟨op, nn, a, b, c, d⟩ = z at hq hyes hno
      generalize jumpsB op = J at hM HJ
      cases hok : okIn n ⟨op, nn, a, b, c, d⟩
      · have HNO : Hid (l.all (okIn n) = false) := by
          show l.all (okIn n) = false
          rw [List.all_eq_false]
          exact ⟨_, List.mem_of_getElem? HX.out, by rw [hok]; simp⟩
        have HR3 : Hid (R = 3) := by show R = 3; rw [HC.out, HNO.out]; rfl
        have h5 := hno hok
        clear hyes hno hok
        rcases h5 with h | ⟨p1, h⟩ | ⟨p1, p2, h⟩ | ⟨p1, p2, p3, h⟩ | ⟨p1, p2, p3, p4, h1, h'⟩
        · skip
          have d1 : decide (op < 1) = true := decide_eq_true (by omega)
          clear h
          clear HX HC HP hr hz HL hx
          cases J
          all_goals
            first | replace hM : M = 0 := hM | replace hM : M = (n : Int) - 1 := hM
            subst hM
            go_wp2_with fail
            refine (HJ.out _).mono ?_
            rintro e w' ⟨rfl, rfl⟩
            go_upto_region 9 with fail
            have hbx : Blk (wr.alloc (.cells #[.int .i64 op, .int .i64 nn, .int .u64 (a : Int), .int .u64 (b : Int), .int .u64 (c : Int), .int .u64 (d : Int)] 62)) wr.heap.size 62 #[.int .i64 op, .int .i64 nn, .int .u64 (a : Int), .int .u64 (b : Int), .int .u64 (c : Int), .int .u64 (d : Int)] := blk_at rfl
            have hb9 : Below w.heap.size w (wr.alloc (.cells #[.int .i64 op, .int .i64 nn, .int .u64 (a : Int), .int .u64 (b : Int), .int .u64 (c : Int), .int .u64 (d : Int)] 62)) := hbw.alloc hsz _
            generalize hW : (wr.alloc (.cells #[.int .i64 op, .int .i64 nn, .int .u64 (a : Int), .int .u64 (b : Int), .int .u64 (c : Int), .int .u64 (d : Int)] 62)) = W1 at hbx hb9 ⊢
            clear hW z0 z1 z2 z3 z4 z5 HJ
            have z0 : W1.cell? ⟨wr.heap.size, 0, none⟩ = some (.int .i64 op) := hbx.cell 0
            have z1 : W1.cell? ⟨wr.heap.size, 1, none⟩ = some (.int .i64 nn) := hbx.cell 1
            have z2 : W1.cell? ⟨wr.heap.size, 2, none⟩ = some (.int .u64 (a : Int)) := hbx.cell 2
            have z3 : W1.cell? ⟨wr.heap.size, 3, none⟩ = some (.int .u64 (b : Int)) := hbx.cell 3
            have z4 : W1.cell? ⟨wr.heap.size, 4, none⟩ = some (.int .u64 (c : Int)) := hbx.cell 4
            have z5 : W1.cell? ⟨wr.heap.size, 5, none⟩ = some (.int .u64 (d : Int)) := hbx.cell 5
            generalize wr.heap.size = q at z0 z1 z2 z3 z4 z5 ⊢
            go_wp2
            go_ret
            exact ⟨by rw [HR3.out]; rfl, hb9⟩
        · skip
          have d1 : decide (op < 1) = false := decide_eq_false (by omega)
          have d2 : decide (11 < op) = true := decide_eq_true (by omega)
          clear h p1
          clear HX HC HP hr hz HL hx
          cases J
          all_goals
            first | replace hM : M = 0 := hM | replace hM : M = (n : Int) - 1 := hM
            subst hM
            go_wp2_with fail
            refine (HJ.out _).mono ?_
            rintro e w' ⟨rfl, rfl⟩
            go_upto_region 9 with fail
            have hbx : Blk (wr.alloc (.cells #[.int .i64 op, .int .i64 nn, .int .u64 (a : Int), .int .u64 (b : Int), .int .u64 (c : Int), .int .u64 (d : Int)] 62)) wr.heap.size 62 #[.int .i64 op, .int .i64 nn, .int .u64 (a : Int), .int .u64 (b : Int), .int .u64 (c : Int), .int .u64 (d : Int)] := blk_at rfl
            have hb9 : Below w.heap.size w (wr.alloc (.cells #[.int .i64 op, .int .i64 nn, .int .u64 (a : Int), .int .u64 (b : Int), .int .u64 (c : Int), .int .u64 (d : Int)] 62)) := hbw.alloc hsz _
            generalize hW : (wr.alloc (.cells #[.int .i64 op, .int .i64 nn, .int .u64 (a : Int), .int .u64 (b : Int), .int .u64 (c : Int), .int .u64 (d : Int)] 62)) = W1 at hbx hb9 ⊢
            clear hW z0 z1 z2 z3 z4 z5 HJ
            have z0 : W1.cell? ⟨wr.heap.size, 0, none⟩ = some (.int .i64 op) := hbx.cell 0
            have z1 : W1.cell? ⟨wr.heap.size, 1, none⟩ = some (.int .i64 nn) := hbx.cell 1
            have z2 : W1.cell? ⟨wr.heap.size, 2, none⟩ = some (.int .u64 (a : Int)) := hbx.cell 2
            have z3 : W1.cell? ⟨wr.heap.size, 3, none⟩ = some (.int .u64 (b : Int)) := hbx.cell 3
            have z4 : W1.cell? ⟨wr.heap.size, 4, none⟩ = some (.int .u64 (c : Int)) := hbx.cell 4
            have z5 : W1.cell? ⟨wr.heap.size, 5, none⟩ = some (.int .u64 (d : Int)) := hbx.cell 5
            generalize wr.heap.size = q at z0 z1 z2 z3 z4 z5 ⊢
            go_wp2
            go_ret
            exact ⟨by rw [HR3.out]; rfl, hb9⟩
        · skip
          have d1 : decide (op < 1) = false := decide_eq_false (by omega)
          have d2 : decide (11 < op) = false := decide_eq_false (by omega)
          have d3 : decide (nn < 0) = true := decide_eq_true (by omega)
          clear h p1 p2
          clear HX HC HP hr hz HL hx
          cases J
          all_goals
            first | replace hM : M = 0 := hM | replace hM : M = (n : Int) - 1 := hM
            subst hM
            go_wp2_with fail
            refine (HJ.out _).mono ?_
            rintro e w' ⟨rfl, rfl⟩
            go_upto_region 9 with fail
            have hbx : Blk (wr.alloc (.cells #[.int .i64 op, .int .i64 nn, .int .u64 (a : Int), .int .u64 (b : Int), .int .u64 (c : Int), .int .u64 (d : Int)] 62)) wr.heap.size 62 #[.int .i64 op, .int .i64 nn, .int .u64 (a : Int), .int .u64 (b : Int), .int .u64 (c : Int), .int .u64 (d : Int)] := blk_at rfl
            have hb9 : Below w.heap.size w (wr.alloc (.cells #[.int .i64 op, .int .i64 nn, .int .u64 (a : Int), .int .u64 (b : Int), .int .u64 (c : Int), .int .u64 (d : Int)] 62)) := hbw.alloc hsz _
            generalize hW : (wr.alloc (.cells #[.int .i64 op, .int .i64 nn, .int .u64 (a : Int), .int .u64 (b : Int), .int .u64 (c : Int), .int .u64 (d : Int)] 62)) = W1 at hbx hb9 ⊢
            clear hW z0 z1 z2 z3 z4 z5 HJ
            have z0 : W1.cell? ⟨wr.heap.size, 0, none⟩ = some (.int .i64 op) := hbx.cell 0
            have z1 : W1.cell? ⟨wr.heap.size, 1, none⟩ = some (.int .i64 nn) := hbx.cell 1
            have z2 : W1.cell? ⟨wr.heap.size, 2, none⟩ = some (.int .u64 (a : Int)) := hbx.cell 2
            have z3 : W1.cell? ⟨wr.heap.size, 3, none⟩ = some (.int .u64 (b : Int)) := hbx.cell 3
            have z4 : W1.cell? ⟨wr.heap.size, 4, none⟩ = some (.int .u64 (c : Int)) := hbx.cell 4
            have z5 : W1.cell? ⟨wr.heap.size, 5, none⟩ = some (.int .u64 (d : Int)) := hbx.cell 5
            generalize wr.heap.size = q at z0 z1 z2 z3 z4 z5 ⊢
            go_wp2
            go_ret
            exact ⟨by rw [HR3.out]; rfl, hb9⟩
        · skip
          have d1 : decide (op < 1) = false := decide_eq_false (by omega)
          have d2 : decide (11 < op) = false := decide_eq_false (by omega)
          have d3 : decide (nn < 0) = false := decide_eq_false (by omega)
          have d4 : decide (M < nn) = true := decide_eq_true (by omega)
          clear h p1 p2 p3
          clear HX HC HP hr hz HL hx
          cases J
          all_goals
            first | replace hM : M = 0 := hM | replace hM : M = (n : Int) - 1 := hM
            subst hM
            go_wp2_with fail
            refine (HJ.out _).mono ?_
            rintro e w' ⟨rfl, rfl⟩
            go_upto_region 9 with fail
            have hbx : Blk (wr.alloc (.cells #[.int .i64 op, .int .i64 nn, .int .u64 (a : Int), .int .u64 (b : Int), .int .u64 (c : Int), .int .u64 (d : Int)] 62)) wr.heap.size 62 #[.int .i64 op, .int .i64 nn, .int .u64 (a : Int), .int .u64 (b : Int), .int .u64 (c : Int), .int .u64 (d : Int)] := blk_at rfl
            have hb9 : Below w.heap.size w (wr.alloc (.cells #[.int .i64 op, .int .i64 nn, .int .u64 (a : Int), .int .u64 (b : Int), .int .u64 (c : Int), .int .u64 (d : Int)] 62)) := hbw.alloc hsz _
            generalize hW : (wr.alloc (.cells #[.int .i64 op, .int .i64 nn, .int .u64 (a : Int), .int .u64 (b : Int), .int .u64 (c : Int), .int .u64 (d : Int)] 62)) = W1 at hbx hb9 ⊢
            clear hW z0 z1 z2 z3 z4 z5 HJ
            have z0 : W1.cell? ⟨wr.heap.size, 0, none⟩ = some (.int .i64 op) := hbx.cell 0
            have z1 : W1.cell? ⟨wr.heap.size, 1, none⟩ = some (.int .i64 nn) := hbx.cell 1
            have z2 : W1.cell? ⟨wr.heap.size, 2, none⟩ = some (.int .u64 (a : Int)) := hbx.cell 2
            have z3 : W1.cell? ⟨wr.heap.size, 3, none⟩ = some (.int .u64 (b : Int)) := hbx.cell 3
            have z4 : W1.cell? ⟨wr.heap.size, 4, none⟩ = some (.int .u64 (c : Int)) := hbx.cell 4
            have z5 : W1.cell? ⟨wr.heap.size, 5, none⟩ = some (.int .u64 (d : Int)) := hbx.cell 5
            generalize wr.heap.size = q at z0 z1 z2 z3 z4 z5 ⊢
            go_wp2
            go_ret
            exact ⟨by rw [HR3.out]; rfl, hb9⟩
        · skip
          have d1 : decide (op < 1) = false := decide_eq_false (by omega)
          have d2 : decide (11 < op) = false := decide_eq_false (by omega)
          have d3 : decide (nn < 0) = false := decide_eq_false (by omega)
          have d4 : decide (M < nn) = false := decide_eq_false (by omega)
          have d5 : (op != 1) = true := by rw [bne_iff_ne]; exact h1
          subst h'
          clear h1 p1 p2 p3 p4
          clear HX HC HP hr hz HL hx
          cases J
          all_goals
            first | replace hM : M = 0 := hM | replace hM : M = (n : Int) - 1 := hM
            subst hM
            go_wp2_with fail
            refine (HJ.out _).mono ?_
            rintro e w' ⟨rfl, rfl⟩
            go_upto_region 9 with fail
            have hbx : Blk (wr.alloc (.cells #[.int .i64 op, .int .i64 nn, .int .u64 (a : Int), .int .u64 (b : Int), .int .u64 (c : Int), .int .u64 (d : Int)] 62)) wr.heap.size 62 #[.int .i64 op, .int .i64 nn, .int .u64 (a : Int), .int .u64 (b : Int), .int .u64 (c : Int), .int .u64 (d : Int)] := blk_at rfl
            have hb9 : Below w.heap.size w (wr.alloc (.cells #[.int .i64 op, .int .i64 nn, .int .u64 (a : Int), .int .u64 (b : Int), .int .u64 (c : Int), .int .u64 (d : Int)] 62)) := hbw.alloc hsz _
            generalize hW : (wr.alloc (.cells #[.int .i64 op, .int .i64 nn, .int .u64 (a : Int), .int .u64 (b : Int), .int .u64 (c : Int), .int .u64 (d : Int)] 62)) = W1 at hbx hb9 ⊢
            clear hW z0 z1 z2 z3 z4 z5 HJ
            have z0 : W1.cell? ⟨wr.heap.size, 0, none⟩ = some (.int .i64 op) := hbx.cell 0
            have z1 : W1.cell? ⟨wr.heap.size, 1, none⟩ = some (.int .i64 nn) := hbx.cell 1
            have z2 : W1.cell? ⟨wr.heap.size, 2, none⟩ = some (.int .u64 (a : Int)) := hbx.cell 2
            have z3 : W1.cell? ⟨wr.heap.size, 3, none⟩ = some (.int .u64 (b : Int)) := hbx.cell 3
            have z4 : W1.cell? ⟨wr.heap.size, 4, none⟩ = some (.int .u64 (c : Int)) := hbx.cell 4
            have z5 : W1.cell? ⟨wr.heap.size, 5, none⟩ = some (.int .u64 (d : Int)) := hbx.cell 5
            generalize wr.heap.size = q at z0 z1 z2 z3 z4 z5 ⊢
            go_wp2
            go_ret
            exact ⟨by rw [HR3.out]; rfl, hb9⟩
      · have HP2 : Hid (∀ y ∈ l.take (j + 1), okIn n y = true) := fun y hy => by
          rw [take_succ_of HX.out, List.mem_append] at hy
          rcases hy with hy | hy
          · exact HP.out y hy
          · simp at hy; rw [hy]; exact hok
        obtain ⟨o1, o2, o3, o4, o5⟩ := hyes hok
        clear hyes hno hok
        rcases o5 with h | ⟨h, h'⟩
        · skip
          have d1 : decide (op < 1) = false := decide_eq_false (by omega)
          have d2 : decide (11 < op) = false := decide_eq_false (by omega)
          have d3 : decide (nn < 0) = false := decide_eq_false (by omega)
          have d4 : decide (M < nn) = false := decide_eq_false (by omega)
          have d5 : (op != 1) = false := by rw [h]; rfl
          clear h o1 o2 o3 o4
          clear HX HC HP hr hz HL hx
          cases J
          all_goals
            first | replace hM : M = 0 := hM | replace hM : M = (n : Int) - 1 := hM
            subst hM
            go_wp2_with fail
            refine (HJ.out _).mono ?_
            rintro e w' ⟨rfl, rfl⟩
            go_upto_region 9 with fail
            have hbx : Blk (wr.alloc (.cells #[.int .i64 op, .int .i64 nn, .int .u64 (a : Int), .int .u64 (b : Int), .int .u64 (c : Int), .int .u64 (d : Int)] 62)) wr.heap.size 62 #[.int .i64 op, .int .i64 nn, .int .u64 (a : Int), .int .u64 (b : Int), .int .u64 (c : Int), .int .u64 (d : Int)] := blk_at rfl
            have hb9 : Below w.heap.size w (wr.alloc (.cells #[.int .i64 op, .int .i64 nn, .int .u64 (a : Int), .int .u64 (b : Int), .int .u64 (c : Int), .int .u64 (d : Int)] 62)) := hbw.alloc hsz _
            generalize hW : (wr.alloc (.cells #[.int .i64 op, .int .i64 nn, .int .u64 (a : Int), .int .u64 (b : Int), .int .u64 (c : Int), .int .u64 (d : Int)] 62)) = W1 at hbx hb9 ⊢
            clear hW z0 z1 z2 z3 z4 z5 HJ
            have z0 : W1.cell? ⟨wr.heap.size, 0, none⟩ = some (.int .i64 op) := hbx.cell 0
            have z1 : W1.cell? ⟨wr.heap.size, 1, none⟩ = some (.int .i64 nn) := hbx.cell 1
            have z2 : W1.cell? ⟨wr.heap.size, 2, none⟩ = some (.int .u64 (a : Int)) := hbx.cell 2
            have z3 : W1.cell? ⟨wr.heap.size, 3, none⟩ = some (.int .u64 (b : Int)) := hbx.cell 3
            have z4 : W1.cell? ⟨wr.heap.size, 4, none⟩ = some (.int .u64 (c : Int)) := hbx.cell 4
            have z5 : W1.cell? ⟨wr.heap.size, 5, none⟩ = some (.int .u64 (d : Int)) := hbx.cell 5
            generalize wr.heap.size = q at z0 z1 z2 z3 z4 z5 ⊢
            go_wp2
            go_roundw
            case rel => exact ⟨j + 1, by omega, by go_num, HP2, hb9⟩
            case measure => simp [intOf]; omega
        · skip
          have d1 : decide (op < 1) = false := decide_eq_false (by omega)
          have d2 : decide (11 < op) = false := decide_eq_false (by omega)
          have d3 : decide (nn < 0) = false := decide_eq_false (by omega)
          have d4 : decide (M < nn) = false := decide_eq_false (by omega)
          have d5 : (op != 1) = true := by rw [bne_iff_ne]; exact h
          subst h'
          clear h o1 o2 o3 o4
          clear HX HC HP hr hz HL hx
          cases J
          all_goals
            first | replace hM : M = 0 := hM | replace hM : M = (n : Int) - 1 := hM
            subst hM
            go_wp2_with fail
            refine (HJ.out _).mono ?_
            rintro e w' ⟨rfl, rfl⟩
            go_upto_region 9 with fail
            have hbx : Blk (wr.alloc (.cells #[.int .i64 op, .int .i64 nn, .int .u64 (a : Int), .int .u64 (b : Int), .int .u64 (c : Int), .int .u64 (d : Int)] 62)) wr.heap.size 62 #[.int .i64 op, .int .i64 nn, .int .u64 (a : Int), .int .u64 (b : Int), .int .u64 (c : Int), .int .u64 (d : Int)] := blk_at rfl
            have hb9 : Below w.heap.size w (wr.alloc (.cells #[.int .i64 op, .int .i64 nn, .int .u64 (a : Int), .int .u64 (b : Int), .int .u64 (c : Int), .int .u64 (d : Int)] 62)) := hbw.alloc hsz _
            generalize hW : (wr.alloc (.cells #[.int .i64 op, .int .i64 nn, .int .u64 (a : Int), .int .u64 (b : Int), .int .u64 (c : Int), .int .u64 (d : Int)] 62)) = W1 at hbx hb9 ⊢
            clear hW z0 z1 z2 z3 z4 z5 HJ
            have z0 : W1.cell? ⟨wr.heap.size, 0, none⟩ = some (.int .i64 op) := hbx.cell 0
            have z1 : W1.cell? ⟨wr.heap.size, 1, none⟩ = some (.int .i64 nn) := hbx.cell 1
            have z2 : W1.cell? ⟨wr.heap.size, 2, none⟩ = some (.int .u64 (a : Int)) := hbx.cell 2
            have z3 : W1.cell? ⟨wr.heap.size, 3, none⟩ = some (.int .u64 (b : Int)) := hbx.cell 3
            have z4 : W1.cell? ⟨wr.heap.size, 4, none⟩ = some (.int .u64 (c : Int)) := hbx.cell 4
            have z5 : W1.cell? ⟨wr.heap.size, 5, none⟩ = some (.int .u64 (d : Int)) := hbx.cell 5
            generalize wr.heap.size = q at z0 z1 z2 z3 z4 z5 ⊢
            go_wp2
            go_roundw
            case rel => exact ⟨j + 1, by omega, by go_num, HP2, hb9⟩
            case measure => simp [intOf]; omega
    · obtain rfl : j = n := by omega
      have HALL : Hid (l.all (okIn j) = true) := by
        show l.all (okIn j) = true
        rw [List.all_eq_true]
        intro x hx
        exact HP.out x (by rw [List.take_of_length_le (by rw [HL.out]; omega)]; exact hx)
      have HR0 : Hid (R = 0) := by show R = 0; rw [HC.out, HALL.out]; rfl
      go_wp2
      go_ret
      exact ⟨by rw [HR0.out]; rfl, hbw⟩
structure MOk (s : List UInt8) (m : MS) : Prop where
  pc : m.pc <= 6000
  at_ : m.at_ <= s.length
  len : m.st.length <= 10000
  st : ∀ x ∈ m.st, x.1 <= 6000 /\ x.2 <= s.length
theorem failL_ok {N : Nat} : ∀ {st : List (Nat × Int)} {p a : Nat} {r : List (Nat × Int)}, failL st = some (p, a, r) -> (∀ x ∈ st, x.1 <= 6000 /\ x.2 <= (N : Int)) -> p <= 6000 /\ a <= N /\ r.length <= st.length /\ ∀ x ∈ r, x ∈ st
  | [], _, _, _, h, _ => by cases h
  | (q, b) :: t, p, a, r, h, hs => by
    rw [failL] at h
    by_cases hb : 0 <= b
    · rw [if_pos hb] at h
      injection h with h
      injection h with h1 h2
      injection h2 with h2 h3
      subst h1 h2 h3
      obtain ⟨k1, k2⟩ := hs (q, b) (by simp)
      dsimp only at k1 k2
      exact ⟨k1, by omega, by simp, fun x hx => by simp [hx]⟩
    · rw [if_neg hb] at h
      obtain ⟨k1, k2, k3, k4⟩ := failL_ok (N := N) h fun x hx => hs x (by simp [hx])
      exact ⟨k1, k2, by simp; omega, fun x hx => by simp [k4 x hx]⟩
theorem failM_ok {s : List UInt8} {st : List (Nat × Int)} {m : MS} (h : failM st = .ok m) (hl : st.length <= 10000) (hs : ∀ x ∈ st, x.1 <= 6000 /\ x.2 <= s.length) : MOk s m := by
  unfold failM at h
  cases hf : failL st with
  | none => rw [hf] at h; cases h
  | some x =>
    obtain ⟨p, a, r⟩ := x
    rw [hf] at h
    injection h with h
    subst h
    obtain ⟨k1, k2, k3, k4⟩ := failL_ok hf hs
    exact ⟨k1, k2, by dsimp only; omega, fun x hx => hs x (k4 x hx)⟩
theorem pushM_ok {s : List UInt8} {pc at_ : Nat} {st : List (Nat × Int)} {x : Nat × Int} {m : MS} (h : pushM pc at_ st x = .ok m) (hl : st.length <= 10000) (hs : ∀ x ∈ st, x.1 <= 6000 /\ x.2 <= s.length) (h1 : pc <= 6000) (h2 : at_ <= s.length) (hx : x.1 <= 6000 /\ x.2 <= s.length) : MOk s m := by
  unfold pushM at h
  by_cases hf : st.length = 10000
  · rw [if_pos hf] at h; cases h
  · rw [if_neg hf] at h
    injection h with h
    subst h
    exact ⟨h1, h2, by simp; omega, fun y hy => by rcases List.mem_cons.1 hy with rfl | hy; exact hx; exact hs y hy⟩
theorem backM_ok {s : List UInt8} {x : In} {pc at_ : Nat} {st : List (Nat × Int)} {m : MS} (h : backM x pc at_ st = .ok m) (hl : st.length <= 10000) (hs : ∀ x ∈ st, x.1 <= 6000 /\ x.2 <= s.length) (h1 : pc <= 6000) (h2 : at_ <= s.length) (hn : x.n.toNat <= 6000) : MOk s m := by
  unfold backM at h
  cases st with
  | nil => cases h
  | cons y r =>
    obtain ⟨p, a⟩ := y
    have hr : ∀ x ∈ r, x.1 <= 6000 /\ x.2 <= s.length := fun x hx => hs x (by simp [hx])
    have hy := hs (p, a) (by simp)
    dsimp only at h hy
    simp only [List.length_cons] at hl
    split at h
    · split at h
      · injection h with h; subst h; exact ⟨hy.1, h2, by dsimp only; omega, hr⟩
      · split at h
        · injection h with h; subst h; exact ⟨hn, h2, by dsimp only; omega, hr⟩
        · split at h
          · injection h with h; subst h
            exact ⟨hn, h2, by simp; omega, fun y hy' => by rcases List.mem_cons.1 hy' with rfl | hy'; exact ⟨hy.1, by dsimp only; omega⟩; exact hr y hy'⟩
          · split at h
            · injection h with h; subst h; exact ⟨hn, by dsimp only; omega, by dsimp only; omega, hr⟩
            · split at h
              · exact failM_ok h (by omega) hr
              · injection h with h; subst h; exact ⟨h1, h2, by dsimp only; omega, hr⟩
    · cases h
theorem oneM_ok {s : List UInt8} {x : In} {m m' : MS} (hm : MOk s m) (hpc : m.pc < 6000) (hn : x.n.toNat <= 6000) (h : oneM s x m = .ok m') : MOk s m' := by
  have p1 := hm.pc
  have p2 := hm.at_
  unfold oneM at h
  split at h
  · split at h
    · exact failM_ok h hm.len hm.st
    · rename_i hh
      injection h with h; subst h
      exact ⟨by dsimp only; omega, by dsimp only; have : m.at_ ≠ s.length := fun e => hh (.inl e); omega, hm.len, hm.st⟩
  · split at h
    · injection h with h; subst h; exact ⟨hn, p2, hm.len, hm.st⟩
    · split at h
      · exact pushM_ok h hm.len hm.st (by omega) p2 ⟨hn, by dsimp only; omega⟩
      · split at h
        · exact pushM_ok h hm.len hm.st hn p2 ⟨by dsimp only; omega, by dsimp only; omega⟩
        · split at h
          · exact failM_ok h hm.len hm.st
          · exact backM_ok h hm.len hm.st (by omega) p2 hn
theorem okIn_n {m : Nat} {x : In} (h : okIn m x = true) (hm : m <= 6000) (h0 : 0 < m) : 0 <= x.n /\ x.n.toNat <= 6000 := by
  obtain ⟨-, -, h3, h4, -⟩ := okIn_yes h
  refine ⟨h3, ?_⟩
  split at h4 <;> omega
theorem runM_none {l : List In} {s : List UInt8} {k : Nat} {m : MS} (h : l[m.pc]? = none) : runM l s k m = (false, 0, 13) := by
  rw [runM.eq_def]
  dsimp only
  rw [h]
theorem runM_zero {l : List In} {s : List UInt8} {m : MS} {x : In} (h : l[m.pc]? = some x) : runM l s 0 m = (false, 0, 10) := by
  rw [runM.eq_def]
  dsimp only
  rw [h]
theorem runM_end {l : List In} {s : List UInt8} {k : Nat} {m : MS} {x : In} (h : l[m.pc]? = some x) (h8 : x.op = 8) : runM l s (k + 1) m = (true, m.at_, 0) := by
  rw [runM.eq_def]
  dsimp only
  rw [h]
  dsimp only
  rw [if_pos h8]
theorem runM_ok {l : List In} {s : List UInt8} {k : Nat} {m m' : MS} {x : In} (h : l[m.pc]? = some x) (h8 : x.op ≠ 8) (ho : oneM s x m = .ok m') : runM l s (k + 1) m = runM l s k m' := by
  rw [runM.eq_def]
  dsimp only
  rw [h]
  dsimp only
  rw [if_neg h8, ho]
theorem runM_err {l : List In} {s : List UInt8} {k : Nat} {m : MS} {x : In} {z : Int} (h : l[m.pc]? = some x) (h8 : x.op ≠ 8) (ho : oneM s x m = .error z) : runM l s (k + 1) m = (false, 0, z) := by
  rw [runM.eq_def]
  dsimp only
  rw [h]
  dsimp only
  rw [if_neg h8, ho]
def outCR (r : Bool × Nat × Int) : Value := .tuple #[.agg #[.bool r.1, .int .i64 (r.2.1 : Int)], .int .i64 r.2.2]
theorem crun_any (A : Option Addr) (n c : Nat) (l : List In) (B : Nat) (w : World) (hr : Reads w B 6 A n (inCells l)) (hB : B <= w.heap.size) (hn : n <= maxLen) (hwd : ∀ x ∈ l, Words x.set) (s : ByteArray) (steps : Int) (hss : I64 s.size) (hst : I64 steps) :
    Calls Try.prog 26 #[.slice A n c, .string s, .int .i64 steps] w fun e w' => e = .returned (outCR (codeM l s.data.toList steps)) /\ Below w.heap.size w w' := by
  have hsl : s.data.toList.length = s.size := Array.length_toList
  have HSL := Lib.hid hsl
  have HL := Lib.hid hr.in_len
  unfold I64 at hst hss
  have hn' := hn
  unfold maxLen at hn'
  obtain ⟨R, hR⟩ : ∃ R, R = codeM l s.data.toList steps := ⟨_, rfl⟩
  rw [<- hR]
  unfold codeM at hR
  rw [hsl] at hR
  have HR := Lib.hid hR
  clear hR hsl
  have HCK := checkM_any A n c l w.heap.size (w.alloc (.cells #[.bool false, .int .i64 0] 41)) ((hr.more hB).alloc (Nat.le_refl _) _) (by simp) hn
  have hz : Blk (w.alloc (.cells #[.bool false, .int .i64 0] 41)) w.heap.size 41 #[.bool false, .int .i64 0] := blk_at rfl
  by_cases hck : checkM l = 0
  · rw [hck] at HCK
    have HR1 : Hid (R = if 60 < s.size then (false, 0, 2) else if steps < 0 \/ 16777216 < steps then (false, 0, 1) else runM l s.data.toList steps.toNat ⟨0, 0, []⟩) := by
      show _ = _
      rw [HR.out, if_neg (fun h => h hck)]
    have hok : l.length <= 6000 /\ ∀ x ∈ l, okIn l.length x = true := by
      unfold checkM at hck
      by_cases h1 : 6000 < l.length
      · rw [if_pos h1] at hck; cases hck
      · rw [if_neg h1] at hck
        refine ⟨by omega, ?_⟩
        cases h2 : l.all (okIn l.length) with
        | true => exact List.all_eq_true.1 h2
        | false => rw [h2] at hck; cases hck
    rw [HL.out] at hok
    have HOK := Lib.hid hok.2
    have hn6 := hok.1
    replace HCK := Lib.hid HCK
    clear HR hck hok
    go_enter Try.func26, Try.ntmps26
    go_wp2_with fail
    refine (HCK.out).mono ?_
    rintro e w1 ⟨rfl, hb1⟩
    have hz1 := hz.below hb1 hz.lt
    have hr1 : Reads w1 w.heap.size 6 A n (inCells l) := ((hr.more hB).alloc (Nat.le_refl _) _).below (hb1.mono (by simp))
    have hw1 : Below w.heap.size w w1 := ((Below.refl _ w).alloc (Nat.le_refl _) _).trans (hb1.mono (by simp))
    have hsz1 := hz1.lt
    clear hb1 hz HCK
    by_cases hbig : 60 < s.size
    · have HR2 : Hid (R = (false, 0, 2)) := HR1.out.trans (if_pos hbig)
      have yz0 : w1.cell? ⟨w.heap.size, 0, none⟩ = some (.bool false) := hz1.cell 0; have yz1 : w1.cell? ⟨w.heap.size, 1, none⟩ = some (.int .i64 0) := hz1.cell 1; have yf0 := hz1.frozen 0; have yf1 := hz1.frozen 1; have ye0 : (w1.setCell ⟨w.heap.size, 0, none⟩ (.bool false)).cell? ⟨w.heap.size, 0, none⟩ = some (.bool false) := (hz1.set_ 0 _).cell 0; have ye1 : ((w1.setCell ⟨w.heap.size, 0, none⟩ (.bool false)).setCell ⟨w.heap.size, 1, none⟩ (.int .i64 0)).cell? ⟨w.heap.size, 1, none⟩ = some (.int .i64 0) := ((hz1.set_ 0 _).set_ 1 _).cell 1
      go_wp2
      refine bodyPost_ret (v := .tuple #[.agg #[.bool false, .int .i64 0], .int .i64 2]) (by simp [results, Try.results26, go_sem, ye0, ye1]) rfl ⟨by rw [HR2.out]; rfl, bl⟩
    have HR2 := HR1.out.trans (if_neg hbig)
    by_cases hneg : steps < 0 \/ 16777216 < steps
    · have HR3 : Hid (R = (false, 0, 1)) := HR2.trans (if_pos hneg)
      clear HR2 HR1
      have yz0 : w1.cell? ⟨w.heap.size, 0, none⟩ = some (.bool false) := hz1.cell 0; have yz1 : w1.cell? ⟨w.heap.size, 1, none⟩ = some (.int .i64 0) := hz1.cell 1; have yf0 := hz1.frozen 0; have yf1 := hz1.frozen 1; have ye0 : (w1.setCell ⟨w.heap.size, 0, none⟩ (.bool false)).cell? ⟨w.heap.size, 0, none⟩ = some (.bool false) := (hz1.set_ 0 _).cell 0; have ye1 : ((w1.setCell ⟨w.heap.size, 0, none⟩ (.bool false)).setCell ⟨w.heap.size, 1, none⟩ (.int .i64 0)).cell? ⟨w.heap.size, 1, none⟩ = some (.int .i64 0) := ((hz1.set_ 0 _).set_ 1 _).cell 1
      by_cases hlow : steps < 0
      · clear hneg
        go_wp2
        refine bodyPost_ret (v := .tuple #[.agg #[.bool false, .int .i64 0], .int .i64 1]) (by simp [results, Try.results26, go_sem, ye0, ye1]) rfl ⟨by rw [HR3.out]; rfl, bl⟩
      · have hhi : 16777216 < steps := hneg.resolve_left hlow
        clear hneg
        go_wp2
        refine bodyPost_ret (v := .tuple #[.agg #[.bool false, .int .i64 0], .int .i64 1]) (by simp [results, Try.results26, go_sem, ye0, ye1]) rfl ⟨by rw [HR3.out]; rfl, bl⟩
    obtain ⟨k0, rfl⟩ : ∃ k : Nat, steps = (k : Int) := ⟨steps.toNat, by omega⟩
    have HR3 : Hid (R = runM l s.data.toList k0 ⟨0, 0, []⟩) := HR2.trans (if_neg hneg)
    have hk0 : k0 <= 16777216 := by omega
    clear HR2 HR1 hneg hst
    have hM0 : Mach (w1.alloc (.cells #[.string s, .int .i64 0, .int .i64 0, .slice none 0 0] 116)) w1.heap.size s ⟨0, 0, []⟩ := ⟨none, 0, blk_at rfl, ⟨rfl, .inl ⟨rfl, rfl⟩⟩⟩
    have hz2 := hz1.alloc (.cells #[.string s, .int .i64 0, .int .i64 0, .slice none 0 0] 116)
    have hw2 := hw1.alloc (Nat.le_of_lt hsz1) (.cells #[.string s, .int .i64 0, .int .i64 0, .slice none 0 0] 116)
    have hr0 := hr.more hB
    have hs0 : Hid (MOk s.data.toList ⟨0, 0, []⟩) := ⟨by simp, by simp, by simp, by simp⟩
    clear hr1 hr hB
    go_wp2
    generalize (w1.alloc (.cells #[.string s, .int .i64 0, .int .i64 0, .slice none 0 0] 116)) = w2 at hM0 hz2 hw2 ⊢
    clear hz1 hw1
    generalize w1.heap.size = mb at hsz1 hM0 ⊢
    rename World => wq
    go_loopw [2] (fun i wr => ∃ (k : Nat) (m : MS), i = .int .i64 k /\ k <= 16777216 /\ Hid (R = runM l s.data.toList k m) /\ Hid (MOk s.data.toList m) /\ Hid (Mach wr mb s m) /\ Blk wr w.heap.size 41 #[.bool false, .int .i64 0] /\ Below w.heap.size w wr) (fun i _ => (intOf i).toNat)
    case atStart => exact ⟨k0, ⟨0, 0, []⟩, rfl, hk0, HR3, hs0, hM0, hz2, hw2⟩
    case round =>
      obtain ⟨k, m, rfl, hk, HRK, HMO, HM, hout, hbw⟩ := hrel
      obtain ⟨pc, at_, st⟩ := m
      have p1 : pc <= 6000 := HMO.out.pc
      have p2 : at_ <= s.size := by have := HMO.out.at_; rw [HSL.out] at this; exact this
      have p3 : st.length <= 10000 := HMO.out.len
      have hmlt := HM.out.lt
      have hmm := HM.out
      obtain ⟨V, cp, hb, -⟩ := hmm
      have y1 : wr.cell? ⟨mb, 1, none⟩ = some (.int .i64 (pc : Int)) := hb.cell 1
      have y2 : wr.cell? ⟨mb, 2, none⟩ = some (.int .i64 (at_ : Int)) := hb.cell 2
      clear hb
      by_cases hpc : pc < n
      · obtain ⟨ad, x, rfl, hab, hx, z0, z1, z2, z3, z4, z5⟩ := (hr0.below hbw).in_at hpc
        have hxm := List.mem_of_getElem? hx
        obtain ⟨hx0, hxn⟩ := okIn_n (HOK.out _ hxm) hn6 (by omega)
        have hxw := hwd _ hxm
        obtain ⟨op, nn, a, b, c1, d⟩ := x
        dsimp only at z0 z1 z2 z3 z4 z5 hx0 hxn hxw
        obtain ⟨q, rfl⟩ : ∃ q : Nat, nn = (q : Int) := ⟨nn.toNat, by omega⟩
        have hpi : (pc : Int) < (n : Int) := by omega
        have HX := Lib.hid hx
        have HXW := Lib.hid hxw
        clear hx hxm hxw
        cases k with
        | zero =>
          have HR4 : Hid (R = (false, 0, 10)) := HRK.out.trans (runM_zero HX.out)
          have yz0 : wr.cell? ⟨w.heap.size, 0, none⟩ = some (.bool false) := hout.cell 0; have yz1 : wr.cell? ⟨w.heap.size, 1, none⟩ = some (.int .i64 0) := hout.cell 1; have yf0 := hout.frozen 0; have yf1 := hout.frozen 1; have ye0 : (wr.setCell ⟨w.heap.size, 0, none⟩ (.bool false)).cell? ⟨w.heap.size, 0, none⟩ = some (.bool false) := (hout.set_ 0 _).cell 0; have ye1 : ((wr.setCell ⟨w.heap.size, 0, none⟩ (.bool false)).setCell ⟨w.heap.size, 1, none⟩ (.int .i64 0)).cell? ⟨w.heap.size, 1, none⟩ = some (.int .i64 0) := ((hout.set_ 0 _).set_ 1 _).cell 1
          go_wp2
          refine bodyPost_ret (v := .tuple #[.agg #[.bool false, .int .i64 0], .int .i64 10]) (by simp [results, Try.results26, go_sem, ye0, ye1]) rfl ⟨by rw [HR4.out]; rfl, bl⟩
        | succ k =>
          have hks : (((k + 1 : Nat) : Int) == 0) = false := by rw [beq_eq_false_iff_ne]; omega
          have hsub : ((k + 1 : Nat) : Int) - 1 = (k : Int) := by omega
          by_cases h8 : op = 8
          · subst h8
            have HR4 : Hid (R = (true, at_, 0)) := HRK.out.trans (runM_end HX.out rfl)
            have yz0 : wr.cell? ⟨w.heap.size, 0, none⟩ = some (.bool false) := hout.cell 0; have yz1 : wr.cell? ⟨w.heap.size, 1, none⟩ = some (.int .i64 0) := hout.cell 1; have yf0 := hout.frozen 0; have yf1 := hout.frozen 1; have ye0 : (wr.setCell ⟨w.heap.size, 0, none⟩ (.bool true)).cell? ⟨w.heap.size, 0, none⟩ = some (.bool true) := (hout.set_ 0 _).cell 0; have ye1 : ((wr.setCell ⟨w.heap.size, 0, none⟩ (.bool true)).setCell ⟨w.heap.size, 1, none⟩ (.int .i64 (at_ : Int))).cell? ⟨w.heap.size, 1, none⟩ = some (.int .i64 (at_ : Int)) := ((hout.set_ 0 _).set_ 1 _).cell 1
            go_wp2
            refine bodyPost_ret (v := .tuple #[.agg #[.bool true, .int .i64 (at_ : Int)], .int .i64 0]) (by simp [results, Try.results26, go_sem, ye0, ye1]) rfl ⟨by rw [HR4.out]; rfl, bl⟩
          · have k8 : (op == 8) = false := by rw [beq_eq_false_iff_ne]; exact h8
            have HONE := Lib.hid (one_any op q a b c1 d HM.out p3 p1 p2 (by omega) HXW.out)
            have H8 := Lib.hid h8
            clear h8
            go_wp2_with fail
            refine (HONE.out).mono ?_
            rintro e w3 ⟨⟨m', hf, rfl, hm⟩ | ⟨z, bb, hf, rfl, hzb⟩, hbl⟩
            · have HR4 : Hid (R = runM l s.data.toList k m') := HRK.out.trans (runM_ok HX.out H8.out hf)
              have HMO2 : Hid (MOk s.data.toList m') := oneM_ok HMO.out (by dsimp only; omega) hxn hf
              have HM2 := Lib.hid hm
              have hout3 := hout.below hbl (by omega)
              have hbw3 := hbw.trans (hbl.mono (by omega))
              clear hf hm hbl
              go_wp2
              go_roundw
              case rel => exact ⟨k, m', by go_num, by omega, HR4, HMO2, HM2, hout3, hbw3⟩
              case measure => simp [intOf]
            · have HR4 : Hid (R = (false, 0, z)) := HRK.out.trans (runM_err HX.out H8.out hf)
              have hout3 := hout.below hbl (by omega)
              have hbw3 := hbw.trans (hbl.mono (by omega))
              clear hf hbl
              have yz0 : w3.cell? ⟨w.heap.size, 0, none⟩ = some (.bool false) := hout3.cell 0; have yz1 : w3.cell? ⟨w.heap.size, 1, none⟩ = some (.int .i64 0) := hout3.cell 1; have yf0 := hout3.frozen 0; have yf1 := hout3.frozen 1; have ye0 : (w3.setCell ⟨w.heap.size, 0, none⟩ (.bool false)).cell? ⟨w.heap.size, 0, none⟩ = some (.bool false) := (hout3.set_ 0 _).cell 0; have ye1 : ((w3.setCell ⟨w.heap.size, 0, none⟩ (.bool false)).setCell ⟨w.heap.size, 1, none⟩ (.int .i64 0)).cell? ⟨w.heap.size, 1, none⟩ = some (.int .i64 0) := ((hout3.set_ 0 _).set_ 1 _).cell 1
              by_cases hz0 : z = 0
              · subst hz0
                obtain rfl := hzb rfl
                clear hzb
                go_wp2
                refine bodyPost_ret (v := .tuple #[.agg #[.bool false, .int .i64 0], .int .i64 0]) (by simp [results, Try.results26, go_sem, ye0, ye1]) rfl ⟨by rw [HR4.out]; rfl, bl⟩
              · have hne : (z == 0) = false := by rw [beq_eq_false_iff_ne]; exact hz0
                clear hzb
                go_wp2
                refine bodyPost_ret (v := .tuple #[.agg #[.bool false, .int .i64 0], .int .i64 z]) (by simp [results, Try.results26, go_sem, ye0, ye1]) rfl ⟨by rw [HR4.out]; rfl, bl⟩
      · have hge : (n : Int) <= (pc : Int) := by omega
        have HR4 : Hid (R = (false, 0, 13)) := HRK.out.trans (runM_none (List.getElem?_eq_none (by rw [HL.out]; dsimp only; omega)))
        have yz0 : wr.cell? ⟨w.heap.size, 0, none⟩ = some (.bool false) := hout.cell 0; have yz1 : wr.cell? ⟨w.heap.size, 1, none⟩ = some (.int .i64 0) := hout.cell 1; have yf0 := hout.frozen 0; have yf1 := hout.frozen 1; have ye0 : (wr.setCell ⟨w.heap.size, 0, none⟩ (.bool false)).cell? ⟨w.heap.size, 0, none⟩ = some (.bool false) := (hout.set_ 0 _).cell 0; have ye1 : ((wr.setCell ⟨w.heap.size, 0, none⟩ (.bool false)).setCell ⟨w.heap.size, 1, none⟩ (.int .i64 0)).cell? ⟨w.heap.size, 1, none⟩ = some (.int .i64 0) := ((hout.set_ 0 _).set_ 1 _).cell 1
        go_wp2
        refine bodyPost_ret (v := .tuple #[.agg #[.bool false, .int .i64 0], .int .i64 13]) (by simp [results, Try.results26, go_sem, ye0, ye1]) rfl ⟨by rw [HR4.out]; rfl, bl⟩
  · have HR1 : Hid (R = (false, 0, checkM l)) := HR.out.trans (if_pos hck)
    have hne : (checkM l == 0) = false := by rw [beq_eq_false_iff_ne]; exact hck
    generalize checkM l = z at HCK HR1 hne hck
    replace HCK := Lib.hid HCK
    clear HR
    go_enter Try.func26, Try.ntmps26
    go_wp2_with fail
    refine (HCK.out).mono ?_
    rintro e w1 ⟨rfl, hb1⟩
    have hz1 := hz.below hb1 hz.lt
    have hw1 : Below w.heap.size w w1 := ((Below.refl _ w).alloc (Nat.le_refl _) _).trans (hb1.mono (by simp))
    clear hb1 hz HCK
    have yz0 : w1.cell? ⟨w.heap.size, 0, none⟩ = some (.bool false) := hz1.cell 0; have yz1 : w1.cell? ⟨w.heap.size, 1, none⟩ = some (.int .i64 0) := hz1.cell 1; have yf0 := hz1.frozen 0; have yf1 := hz1.frozen 1; have ye0 : (w1.setCell ⟨w.heap.size, 0, none⟩ (.bool false)).cell? ⟨w.heap.size, 0, none⟩ = some (.bool false) := (hz1.set_ 0 _).cell 0; have ye1 : ((w1.setCell ⟨w.heap.size, 0, none⟩ (.bool false)).setCell ⟨w.heap.size, 1, none⟩ (.int .i64 0)).cell? ⟨w.heap.size, 1, none⟩ = some (.int .i64 0) := ((hz1.set_ 0 _).set_ 1 _).cell 1
    go_wp2
    refine bodyPost_ret (v := .tuple #[.agg #[.bool false, .int .i64 0], .int .i64 z]) (by simp [results, Try.results26, go_sem, ye0, ye1]) rfl ⟨by rw [HR1.out]; rfl, bl⟩
end Go.Proofs.Ytkmcnekjimobhaa
