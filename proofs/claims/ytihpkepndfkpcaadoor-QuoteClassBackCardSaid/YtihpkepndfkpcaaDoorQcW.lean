/- The walk of the law QuoteClassBack: it returns true, and what was there stays as it was. -/
import Derived.Test.YtihpkepndfkpcaaDoorQcC
import Derived.Test.YtihpkepndfkpcaaDoorQcU
import Derived.Test.YtihpkepndfkpcaaDoorSet4
import Derived.Test.YtihpkepndfkpcaaDoorQuiet
namespace Go.Proofs.YtihpkepndfkpcaaDoor
open Go.RowKit

theorem class_x (l : List Nat) (hl : Words l) (w : World) (hT : TabAt w) :
    Calls Tryd.prog 5 #[vals l] w fun e w' => e = .returned (.string ⟨(clsAll l).toArray⟩) ∧ Below w.heap.size w w' :=
  (class_any l hl w hT).mono fun e w' ⟨⟨u, h1, h2⟩, h3⟩ => ⟨by rw [h1, ← h2], h3⟩
theorem class_abc (w : World) (hT : TabAt w) : Calls Tryd.prog 5 #[.agg #[.int .u64 0, .int .u64 60129542144, .int .u64 0, .int .u64 0]] w fun e w' => e = .returned (.string ⟨#[91, 97, 45, 99, 93]⟩) ∧ Below w.heap.size w w' := by
  have := class_x [0, 60129542144, 0, 0] (fun i => by
    match i with
    | 0 => simp
    | 1 => simp
    | 2 => simp
    | 3 => simp
    | i + 4 => simp) w hT
  rw [show clsAll [0, 60129542144, 0, 0] = [91, 97, 45, 99, 93] from by decide +kernel] at this
  exact this
theorem range_abc (w : World) : Calls Tryd.prog 8 #[.int .i64 97, .int .i64 99] w fun e w' => e = .returned (.agg #[.int .u64 0, .int .u64 60129542144, .int .u64 0, .int .u64 0]) ∧ Below w.heap.size w w' := by
  have := range_w (lo := 97) (hi := 99) (by omega) (by omega) w
  rw [show rangeL 97 (99 + 1 - 97) = [0, 60129542144, 0, 0] from by decide +kernel] at this
  exact this
structure Boxed3 (w0 : World) (n m : Nat) (s t : Array Value) (w : World) : Prop where
  s : Blk w n 24 s
  t : Blk w m 24 t
  b : Below n w0 w
  lt : 0 < n
  tab : TabAt w
theorem Boxed3.step {w0 : World} {n m : Nat} {s t : Array Value} {w w' : World} (h : Boxed3 w0 n m s t w) (hb : Below w.heap.size w w') : Boxed3 w0 n m s t w' :=
  ⟨h.s.below hb h.s.lt, h.t.below hb h.t.lt, h.b.trans (hb.mono (by have := h.s.lt; omega)), h.lt, h.tab.below hb (by have := h.s.lt; omega)⟩
theorem Boxed3.drew {w0 : World} {n m : Nat} {s t : Array Value} {w : World} (h : Boxed3 w0 n m s t w) : Boxed3 w0 n m s t w.drew := ⟨h.s.drew, h.t.drew, h.b.drew, h.lt, h.tab⟩

set_option maxRecDepth 100000 in
set_option maxHeartbeats 4000000 in
theorem walk_QuoteClassBack (l : List Nat) (more : ByteArray) (hl : Words l) (hl4 : l.length = 4) (hm : more.size ≤ 140737488351232) (w : World) (hT : TabAt w) :
    Calls Tryd.prog 3 #[vals l, .string more] w fun e w' => e = .returned (.bool true) ∧ Below w.heap.size w w' := by
  have hpos := hT.pos
  have HT := Lib.hid hT
  obtain ⟨C, hC⟩ : ∃ C, clsT l 257 (fstB l 0) = C := ⟨_, rfl⟩
  have hCl : C.length ≤ 2313 := by have := clsT_len l 257 (fstB l 0); rw [hC] at this; omega
  have HALL : Hid (clsAll l = 91 :: C ++ [93]) := by show _ = _; rw [← hC]; rfl
  have HB : Hid (∀ more F, C.length < F → unc F (C ++ 93 :: more) [0, 0, 0, 0] = some (l, C.length + 1)) := fun more F hF => by
    have := unc_back l hl4 hl more F (by rw [hC]; exact hF)
    rw [hC] at this
    exact this
  have HD : Hid (∀ more, bt (C ++ 93 :: more) 0 ≠ 94) := fun more => by
    have := (clsT_head l more 257 0 (by omega)).2
    rw [hC] at this
    exact this
  have HCL : Hid (∀ W, TabAt W → Calls Tryd.prog 5 #[vals l] W fun e w' => e = .returned (.string ⟨(clsAll l).toArray⟩) ∧ Below W.heap.size W w') := fun W hT => class_x l hl W hT
  have HNT : Hid (∀ W, Calls Tryd.prog 7 #[vals l] W fun e w' => e = .returned (notV l) ∧ Below W.heap.size W w') := fun W => not_w l W
  obtain ⟨t, ht⟩ : ∃ t : ByteArray, t = ⟨(clsAll l).toArray⟩ := ⟨_, rfl⟩
  have htd : t.data.toList = 91 :: C ++ [93] := by rw [ht]; exact HALL.out
  have hts : t.size = C.length + 2 := by
    have := congrArg List.length htd
    rw [size_list] at this
    simpa using this
  rw [← ht] at HCL
  have HTD := Lib.hid htd
  have HU1 : Hid (∀ W, Calls Tryd.prog 6 #[.string (t ++ more)] W fun e w' => e = .returned (.tuple #[vals l, .int .i64 (t.size : Nat), .int .i64 0]) ∧ Below W.heap.size W w') := fun W => by
    have hd : (t ++ more).data.toList = 91 :: (C ++ 93 :: more.data.toList) := by rw [app_data', htd]; simp
    have hsz : (t ++ more).size = t.size + more.size := by simp
    have h0 : bt (t ++ more).data.toList 1 = bt (C ++ 93 :: more.data.toList) 0 := by rw [hd]; rfl
    have := unclass_one (t ++ more) W (by omega) (by omega) (by rw [hd]; rfl) (by rw [h0]; exact HD.out _) 1 rfl l (C.length + 1) ((t ++ more).size + 1) (by omega) (by rw [hd]; exact HB.out _ _ (by omega))
    rw [show 1 + (C.length + 1) = t.size from by omega] at this
    exact this
  have HU2 : Hid (∀ W, Calls Tryd.prog 6 #[.string (⟨#[91, 94]⟩ ++ t.extract 1 t.size)] W fun e w' => e = .returned (.tuple #[notV l, .int .i64 ((t.size + 1 : Nat) : Int), .int .i64 0]) ∧ Below W.heap.size W w') := fun W => by
    have hd : (⟨#[91, 94]⟩ ++ t.extract 1 t.size : ByteArray).data.toList = 91 :: 94 :: (C ++ [93]) := by rw [app_data', Lib.extract_to_end, htd]; rfl
    have hsz : (⟨#[91, 94]⟩ ++ t.extract 1 t.size : ByteArray).size = C.length + 3 := by
      have := congrArg List.length hd
      rw [size_list] at this
      simpa using this
    have := unclass_two (⟨#[91, 94]⟩ ++ t.extract 1 t.size) W (by omega) (by omega) (by rw [hd]; rfl) (by rw [hd]; rfl) 2 rfl l (C.length + 1) (C.length + 4) (by omega) (by rw [hd]; exact HB.out _ _ (by omega))
    rw [show 2 + (C.length + 1) = t.size + 1 from by omega] at this
    exact this
  have ht2 : 2 ≤ t.size := by omega
  have htb : t.size ≤ 2400 := by omega
  clear HB HD HALL hl hT hC ht htd hts hCl HTD
  have hq0 := fun w => run_same_set w (l.getD 0 0 : Nat) (l.getD 1 0 : Nat) (l.getD 2 0 : Nat) (l.getD 3 0 : Nat) (l.getD 0 0 : Nat) (l.getD 1 0 : Nat) (l.getD 2 0 : Nat) (l.getD 3 0 : Nat)
  have hq1 := fun w => run_eql_set w (notU (l.getD 0 0 : Nat)) (notU (l.getD 1 0 : Nat)) (notU (l.getD 2 0 : Nat)) (notU (l.getD 3 0 : Nat)) (notU (l.getD 0 0 : Nat)) (notU (l.getD 1 0 : Nat)) (notU (l.getD 2 0 : Nat)) (notU (l.getD 3 0 : Nat))
  simp only [beq_self_eq_true, Bool.and_self] at hq0 hq1
  unfold notV S4.map2 S4.val at HNT HU2
  dsimp only at HNT HU2
  unfold vals at HCL HNT HU1 ⊢
  generalize notU (l.getD 0 0 : Nat) = n0 at *
  generalize notU (l.getD 1 0 : Nat) = n1 at *
  generalize notU (l.getD 2 0 : Nat) = n2 at *
  generalize notU (l.getD 3 0 : Nat) = n3 at *
  generalize l.getD 0 0 = e0 at *
  generalize l.getD 1 0 = e1 at *
  generalize l.getD 2 0 = e2 at *
  generalize l.getD 3 0 = e3 at *
  have hwt : IntKind.i64.wrap ((t.size : Int) + 1) = (t.size : Int) + 1 := IntWalk.i64_in _ (by omega)
  have hww : (((t.size : Int) + 1) == ((t.size : Int) + 1)) = true := by simp
  go_enter Tryd.func3, Tryd.ntmps3
  go_wp2_with fail
  refine (HCL.out _ (HT.out.below ((Below.refl _ _).alloc (Nat.le_refl _) _) hpos)).mono ?_
  rintro e w1 ⟨rfl, hb1⟩
  have hB1 : Blk w1 w.heap.size 24 #[.int .u64 e0, .int .u64 e1, .int .u64 e2, .int .u64 e3] := (blk_at rfl).below hb1 (by simp)
  have hbw1 : Below w.heap.size w w1 := ((Below.refl _ _).alloc (Nat.le_refl _) _).trans (hb1.mono (by simp))
  clear hb1
  go_wp2_with fail
  refine (HU1.out _).mono ?_
  rintro e w2 ⟨rfl, hb2⟩
  have hB2 := hB1.below hb2 hB1.lt
  have hbw2 := hbw1.trans (hb2.mono hbw1.size)
  have hlt2 := hB2.lt
  have z0 : w2.cell? ⟨w.heap.size, 0, none⟩ = some (.int .u64 e0) := hB2.cell 0
  have z1 : w2.cell? ⟨w.heap.size, 1, none⟩ = some (.int .u64 e1) := hB2.cell 1
  have z2 : w2.cell? ⟨w.heap.size, 2, none⟩ = some (.int .u64 e2) := hB2.cell 2
  have z3 : w2.cell? ⟨w.heap.size, 3, none⟩ = some (.int .u64 e3) := hB2.cell 3
  clear hb2 hB1 hbw1
  go_wp2_with fail
  refine (HU2.out _).mono ?_
  rintro e w3 ⟨rfl, hb3⟩
  have hB3 : Blk w3 w.heap.size 24 #[.int .u64 e0, .int .u64 e1, .int .u64 e2, .int .u64 e3] := (hB2.alloc _).below hb3 (by simp; omega)
  have hbw3 := (hbw2.alloc hbw2.size (.cells #[.int .u64 e0, .int .u64 e1, .int .u64 e2, .int .u64 e3] 24)).trans (hb3.mono (by simp; omega))
  have hlt3 := hB3.lt
  clear hb3 hB2 hbw2 z0 z1 z2 z3
  go_wp2_with fail
  have hBX : Boxed3 w w.heap.size w3.heap.size #[.int .u64 e0, .int .u64 e1, .int .u64 e2, .int .u64 e3] #[.int .u64 n0, .int .u64 n1, .int .u64 n2, .int .u64 n3] (w3.alloc (.cells #[.int .u64 n0, .int .u64 n1, .int .u64 n2, .int .u64 n3] 24)) :=
    ⟨hB3.alloc _, blk_at rfl, hbw3.alloc hbw3.size _, hpos, HT.out.below (hbw3.alloc hbw3.size _) hpos⟩
  try simp only [List.append]
  refine wp_region_quiet (C := Boxed3 w w.heap.size w3.heap.size #[.int .u64 e0, .int .u64 e1, .int .u64 e2, .int .u64 e3] #[.int .u64 n0, .int .u64 n1, .int .u64 n2, .int .u64 n3]) (by kernel_rfl) (by kernel_rfl) hBX.drew ?_
  clear hBX
  repeat
    (first | refine wpQuiet_no rfl ?_ | (apply wpQuiet_yes rfl; · (intro W hW; have c1 := hW.s.cell; have c2 := hW.t.cell; go_simp; first | rfl | (go_at_call 7; (with_reducible refine (HNT.out _).mono ?_); exact fun e w' h => ⟨h.1, hW.step h.2⟩) | (go_at_call 8; (with_reducible refine (range_abc _).mono ?_); exact fun e w' h => ⟨h.1, hW.step h.2⟩) | (go_at_call 5; (with_reducible refine (class_abc _ hW.tab).mono ?_); exact fun e w' h => ⟨h.1, hW.step h.2⟩)))); (try simp only [Act.put, List.setIfInBounds_toArray, List.set_cons_zero, List.set_cons_succ])
  refine wpQuiet_nil ?_
  intro w4 hw4
  have hb4 := hw4.b
  clear hw4
  go_wp2
  go_ret
  exact ⟨rfl, hb4⟩
end Go.Proofs.YtihpkepndfkpcaaDoor
