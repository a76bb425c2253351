/- The machine of package code: one instruction. -/
import Derived.Test.YtphfckihdhmhpaaCmB
import Derived.Test.YtphfckihdhmhpaaGC
import Derived.Test.YtphfckihdhmhpaaQSpw
import Derived.Test.YtphfckihdhmhpaaGA
namespace Go.Proofs.Ytphfckihdhmhpaa
open Go.RowKit

structure MaC (mb : Nat) (X Y : Array Value) (xb : Nat) (w W : World) : Prop where
  mb_ : Blk W mb 135 X
  box : Blk W xb 89 Y
  bel : Below w.heap.size w W
theorem MaC.below {mb : Nat} {X Y : Array Value} {xb : Nat} {w W W' : World} (h : MaC mb X Y xb w W) (hb : Below W.heap.size W W') : MaC mb X Y xb w W' := ⟨h.mb_.below hb h.mb_.lt, h.box.below hb h.box.lt, h.bel.trans (hb.mono h.bel.size)⟩
theorem MaC.drew {mb : Nat} {X Y : Array Value} {xb : Nat} {w W : World} (h : MaC mb X Y xb w W) : MaC mb X Y xb w W.drew := h.below (Below.refl _ _).drew

set_option maxHeartbeats 8000000 in
set_option maxRecDepth 100000 in
theorem one_any {w : World} {mb : Nat} {s : ByteArray} {pc at_ : Nat} {st : List (Nat × Int)} (op : Int) (n a b c d : Nat) (h : Mach w mb s ⟨pc, at_, st⟩) (hl : st.length ≤ 10000) (hpc : pc ≤ 6000) (hat : at_ ≤ s.size) (hs : s.size ≤ 60)
    (hwd : Words [a, b, c, d]) :
    Calls Try.prog 72 #[.pointer (some ⟨mb, 0, none⟩), .agg #[.int .i64 op, .int .i64 (n : Int), .int .u64 (a : Int), .int .u64 (b : Int), .int .u64 (c : Int), .int .u64 (d : Int)]] w (OneQ mb s (oneM s.data.toList ⟨op, n, a, b, c, d⟩ ⟨pc, at_, st⟩) w) := by
  obtain ⟨o, ho⟩ : ∃ o, o = oneM s.data.toList ⟨op, n, a, b, c, d⟩ ⟨pc, at_, st⟩ := ⟨_, rfl⟩
  rw [← ho]
  have HBK : Hid (o = if op = 1 then (if at_ = s.data.toList.length ∨ hasN [a, b, c, d] (s.data.toList.getD at_ 0).toNat = false then failM st else .ok ⟨pc + 1, at_ + 1, st⟩) else if op = 2 then .ok ⟨n, at_, st⟩ else if op = 3 then pushM (pc + 1) at_ st (n, (at_ : Int)) else if op = 5 then pushM n at_ st (pc + 1, -1) else if op = 7 then failM st else backM ⟨op, n, a, b, c, d⟩ (pc + 1) at_ st) := ho
  clear ho
  have hmb := h.lt
  have e1 : ((pc + 1 : Nat) : Int) = (pc : Int) + 1 := by omega
  have H1 : Mach ((w.setCell ⟨mb, 1, none⟩ (.int .i64 ((pc : Int) + 1))).alloc (.cells #[.int .i64 op, .int .i64 (n : Int), .int .u64 (a : Int), .int .u64 (b : Int), .int .u64 (c : Int), .int .u64 (d : Int)] 89)) mb s ⟨pc + 1, at_, st⟩ := by
    have := (h.setPc (pc + 1)).alloc (.cells #[.int .i64 op, .int .i64 (n : Int), .int .u64 (a : Int), .int .u64 (b : Int), .int .u64 (c : Int), .int .u64 (d : Int)] 89)
    rw [e1] at this
    exact this
  have hW1 : Below mb w ((w.setCell ⟨mb, 1, none⟩ (.int .i64 ((pc : Int) + 1))).alloc (.cells #[.int .i64 op, .int .i64 (n : Int), .int .u64 (a : Int), .int .u64 (b : Int), .int .u64 (c : Int), .int .u64 (d : Int)] 89)) := ((Below.refl mb w).setCell (p := ⟨mb, 1, none⟩) (Nat.le_refl _) (.int .i64 ((pc : Int) + 1))).alloc (Nat.le_of_lt (by simpa [World.setCell] using hmb)) _
  have hX1 : Blk ((w.setCell ⟨mb, 1, none⟩ (.int .i64 ((pc : Int) + 1))).alloc (.cells #[.int .i64 op, .int .i64 (n : Int), .int .u64 (a : Int), .int .u64 (b : Int), .int .u64 (c : Int), .int .u64 (d : Int)] 89)) w.heap.size 89 #[.int .i64 op, .int .i64 (n : Int), .int .u64 (a : Int), .int .u64 (b : Int), .int .u64 (c : Int), .int .u64 (d : Int)] := blk_at (by simp)
  obtain ⟨V, cp, hb, -⟩ := h
  have y1 : w.cell? ⟨mb, 1, none⟩ = some (.int .i64 (pc : Int)) := hb.cell 1
  have f1 := hb.frozen 1
  have hb1 : Blk ((w.setCell ⟨mb, 1, none⟩ (.int .i64 ((pc : Int) + 1))).alloc (.cells #[.int .i64 op, .int .i64 (n : Int), .int .u64 (a : Int), .int .u64 (b : Int), .int .u64 (c : Int), .int .u64 (d : Int)] 89)) mb 135 #[.string s, .int .i64 ((pc : Int) + 1), .int .i64 (at_ : Int), .slice V st.length cp] := (hb.set_ 1 _).alloc _
  dsimp only at hb
  go_enter Try.func72, Try.ntmps72
  go_upto_region 2 with fail
  generalize ((w.setCell ⟨mb, 1, none⟩ (.int .i64 ((pc : Int) + 1))).alloc (.cells #[.int .i64 op, .int .i64 (n : Int), .int .u64 (a : Int), .int .u64 (b : Int), .int .u64 (c : Int), .int .u64 (d : Int)] 89)) = W1 at H1 hW1 hX1 hb1 ⊢
  clear hb y1 f1
  have x0 : W1.cell? ⟨w.heap.size, 0, none⟩ = some (.int .i64 op) := hX1.cell 0
  have x1 : W1.cell? ⟨w.heap.size, 1, none⟩ = some (.int .i64 (n : Int)) := hX1.cell 1
  have y1 : W1.cell? ⟨mb, 1, none⟩ = some (.int .i64 ((pc : Int) + 1)) := hb1.cell 1
  have y2 : W1.cell? ⟨mb, 2, none⟩ = some (.int .i64 (at_ : Int)) := hb1.cell 2
  have f1 := hb1.frozen 1
  have f2 := hb1.frozen 2
  have hmw := hX1.lt
  have hmm := hb1.lt
  have HM := Lib.hid H1
  have HX := Lib.hid hX1
  have HB := Lib.hid hb1
  have HW := Lib.hid hW1
  have HFF := Lib.hid (fun (W : World) (hW : Mach W mb s ⟨pc + 1, at_, st⟩) => fail_any hW hl)
  clear H1 hX1 hb1 hW1
  by_cases h1 : op = 1
  · subst h1
    rw [if_pos rfl] at HBK
    have hsl : s.data.toList.length = s.size := Array.length_toList
    rw [hsl] at HBK
    clear hsl x0 x1 y1 y2 f1 f2
    have hC0 : MaC mb #[.string s, .int .i64 ((pc : Int) + 1), .int .i64 (at_ : Int), .slice V st.length cp] #[.int .i64 1, .int .i64 (n : Int), .int .u64 (a : Int), .int .u64 (b : Int), .int .u64 (c : Int), .int .u64 (d : Int)] w.heap.size W1 W1.drew := ⟨HB.out.drew, HX.out.drew, (Below.refl _ _).drew⟩
    have x0 : W1.cell? ⟨w.heap.size, 0, none⟩ = some (.int .i64 1) := HX.out.cell 0
    have HC0 := Lib.hid hC0
    clear hC0
    have HWD := Lib.hid hwd
    clear hwd
    by_cases hps : at_ < s.size
    · have hbt := bt_of hps
      have hh := has_any [a, b, c, d] HWD.out (bt s.data.toList at_) (bt_lt _ _)
      unfold vals at hh
      have hgd : (s.data.toList.getD at_ 0).toNat = bt s.data.toList at_ := rfl
      rw [hgd] at HBK
      generalize hasN [a, b, c, d] (bt s.data.toList at_) = x at hh HBK
      generalize bt s.data.toList at_ = y at hbt hh
      have hne : ((at_ : Int) == (s.size : Int)) = false := by rw [beq_eq_false_iff_ne]; omega
      have hnn : ¬ at_ = s.size := by omega
      have HH := Lib.hid hh
      have HNN := Lib.hid hnn
      have hlt' : (at_ : Int) < (s.size : Int) := by omega
      clear hh hnn hgd
      go_upto_region 5 with fail
      refine wp_region_q (MaC mb #[.string s, .int .i64 ((pc : Int) + 1), .int .i64 (at_ : Int), .slice V st.length cp] #[.int .i64 1, .int .i64 (n : Int), .int .u64 (a : Int), .int .u64 (b : Int), .int .u64 (c : Int), .int .u64 (d : Int)] w.heap.size W1) (by kernel_rfl) (by kernel_rfl) HC0.out ?_
      repeat
        (first | ((with_reducible apply QW.free rfl); · (intro W hW; have s0 := hW.mb_.cell 0; have s2 := hW.mb_.cell 2; have t2 := hW.box.cell 2; have t3 := hW.box.cell 3; have t4 := hW.box.cell 4; have t5 := hW.box.cell 5; go_simp; first | rfl | (go_at_call 97; refine (HH.out _).mono ?_; exact fun e w' h => ⟨h.1, hW.below h.2⟩))) | ((with_reducible apply QW.skip rfl); · (first | exact ⟨_, _, rfl, rfl, .inl rfl⟩ | exact ⟨_, _, rfl, rfl, .inr rfl⟩)) | ((with_reducible apply QW.take rfl); (· exact ⟨_, rfl, rfl⟩); (· (intro W hW; have s0 := hW.mb_.cell 0; have s2 := hW.mb_.cell 2; have t2 := hW.box.cell 2; have t3 := hW.box.cell 3; have t4 := hW.box.cell 4; have t5 := hW.box.cell 5; go_simp; first | rfl | (go_at_call 97; refine (HH.out _).mono ?_; exact fun e w' h => ⟨h.1, hW.below h.2⟩))))); (try simp only [Act.put, List.setIfInBounds_toArray, List.set_cons_zero, List.set_cons_succ])
      refine QW.nil ?_
      intro w2 h2
      have HM2 := Lib.hid (HM.out.below h2.bel)
      have y2 : w2.cell? ⟨mb, 2, none⟩ = some (.int .i64 (at_ : Int)) := h2.mb_.cell 2
      have f2 := h2.mb_.frozen 2
      have HW2 : Hid (Below mb w w2) := HW.out.trans (h2.bel.mono (by omega))
      clear h2
      cases x with
      | true =>
        rw [if_neg (by rintro (h | h); exact HNN.out h; cases h)] at HBK
        go_wp2
        have hA := HM2.out.setAt (at_ + 1)
        rw [show ((at_ + 1 : Nat) : Int) = (at_ : Int) + 1 from by omega] at hA
        exact bodyPost_ret (v := .tuple #[.bool true, .int .i64 0]) (by simp [results, Try.results72, go_sem]) rfl ⟨.inl ⟨_, HBK.out, rfl, hA⟩, HW2.out.setCell (Nat.le_refl _) _⟩
      | false =>
        rw [if_pos (.inr rfl)] at HBK
        go_wp2_with fail
        refine (HFF.out _ HM2.out).mono ?_
        rintro e w3 ⟨⟨hf, rfl⟩ | ⟨m, hf, rfl, hm⟩, hbl⟩
        · have HF := Lib.hid hf
          have HBL := Lib.hid hbl
          clear hf hbl
          go_wp2
          exact bodyPost_ret (v := .tuple #[.bool false, .int .i64 0]) (by simp [results, Try.results72, go_sem]) rfl ⟨.inr ⟨0, false, HBK.out.trans HF.out, rfl, fun _ => rfl⟩, HW2.out.trans HBL.out⟩
        · have HF := Lib.hid hf
          have HBL := Lib.hid hbl
          have HM3 := Lib.hid hm
          clear hf hbl hm
          go_wp2
          exact bodyPost_ret (v := .tuple #[.bool true, .int .i64 0]) (by simp [results, Try.results72, go_sem]) rfl ⟨.inl ⟨_, HBK.out.trans HF.out, rfl, HM3.out⟩, HW2.out.trans HBL.out⟩
    · rw [if_pos (.inl (by omega))] at HBK
      have hne : ((at_ : Int) == (s.size : Int)) = true := by rw [beq_iff_eq]; omega
      go_upto_region 5 with fail
      refine wp_region_q (MaC mb #[.string s, .int .i64 ((pc : Int) + 1), .int .i64 (at_ : Int), .slice V st.length cp] #[.int .i64 1, .int .i64 (n : Int), .int .u64 (a : Int), .int .u64 (b : Int), .int .u64 (c : Int), .int .u64 (d : Int)] w.heap.size W1) (by kernel_rfl) (by kernel_rfl) HC0.out ?_
      repeat
        (first | ((with_reducible apply QW.free rfl); · (intro W hW; have s0 := hW.mb_.cell 0; have s2 := hW.mb_.cell 2; go_simp; first | rfl)) | ((with_reducible apply QW.skip rfl); · (first | exact ⟨_, _, rfl, rfl, .inl rfl⟩ | exact ⟨_, _, rfl, rfl, .inr rfl⟩)) | ((with_reducible apply QW.take rfl); (· exact ⟨_, rfl, rfl⟩); (· (intro W hW; have s0 := hW.mb_.cell 0; have s2 := hW.mb_.cell 2; go_simp; first | rfl)))); (try simp only [Act.put, List.setIfInBounds_toArray, List.set_cons_zero, List.set_cons_succ])
      refine QW.nil ?_
      intro w2 h2
      have HM2 := Lib.hid (HM.out.below h2.bel)
      have HW2 : Hid (Below mb w w2) := HW.out.trans (h2.bel.mono (by omega))
      clear h2
      go_wp2_with fail
      refine (HFF.out _ HM2.out).mono ?_
      rintro e w3 ⟨⟨hf, rfl⟩ | ⟨m, hf, rfl, hm⟩, hbl⟩
      · have HF := Lib.hid hf
        have HBL := Lib.hid hbl
        clear hf hbl
        go_wp2
        exact bodyPost_ret (v := .tuple #[.bool false, .int .i64 0]) (by simp [results, Try.results72, go_sem]) rfl ⟨.inr ⟨0, false, HBK.out.trans HF.out, rfl, fun _ => rfl⟩, HW2.out.trans HBL.out⟩
      · have HF := Lib.hid hf
        have HBL := Lib.hid hbl
        have HM3 := Lib.hid hm
        clear hf hbl hm
        go_wp2
        exact bodyPost_ret (v := .tuple #[.bool true, .int .i64 0]) (by simp [results, Try.results72, go_sem]) rfl ⟨.inl ⟨_, HBK.out.trans HF.out, rfl, HM3.out⟩, HW2.out.trans HBL.out⟩
  rw [if_neg h1] at HBK
  have k1 : (op == 1) = false := by rw [beq_eq_false_iff_ne]; exact h1
  clear h1
  by_cases h2 : op = 2
  · subst h2
    rw [if_pos rfl] at HBK
    clear k1
    go_wp2
    exact bodyPost_ret (v := .tuple #[.bool true, .int .i64 0]) (by simp [results, Try.results72, go_sem]) rfl ⟨.inl ⟨_, HBK.out, rfl, HM.out.setPc n⟩, HW.out.setCell (Nat.le_refl _) _⟩
  rw [if_neg h2] at HBK
  have k2 : (op == 2) = false := by rw [beq_eq_false_iff_ne]; exact h2
  clear h2
  by_cases h3 : op = 3
  · subst h3
    rw [if_pos rfl] at HBK
    have HP := Lib.hid (fun (W : World) (hW : Below W1.heap.size W1 W) => push_any (HM.out.below hW) hl n (at_ : Int))
    have hC0 : MaC mb #[.string s, .int .i64 ((pc : Int) + 1), .int .i64 (at_ : Int), .slice V st.length cp] #[.int .i64 3, .int .i64 (n : Int), .int .u64 (a : Int), .int .u64 (b : Int), .int .u64 (c : Int), .int .u64 (d : Int)] w.heap.size W1 W1.drew := ⟨HB.out.drew, HX.out.drew, (Below.refl _ _).drew⟩
    clear x1 y1 y2 f1 f2
    go_upto_region 11 with fail
    clear x0
    refine wp_region_l (MaC mb #[.string s, .int .i64 ((pc : Int) + 1), .int .i64 (at_ : Int), .slice V st.length cp] #[.int .i64 3, .int .i64 (n : Int), .int .u64 (a : Int), .int .u64 (b : Int), .int .u64 (c : Int), .int .u64 (d : Int)] w.heap.size W1) (fun k => decide (8 ≤ k)) (by kernel_rfl) ?_
    have hC := hC0
    generalize W1.drew = wd at hC ⊢
    clear hC0
    apply L.rdt (i := 0) rfl (by kernel_rfl) hC rfl
    · intro W hW
      skip
      unfold readW
      go_simp
      first | rfl | exact ⟨rfl, rfl⟩
    first | simp only [Act.put, List.setIfInBounds_toArray, List.set_cons_succ, List.set_cons_zero] | skip
    apply L.rdt (i := 1) rfl (by kernel_rfl) hC rfl
    · intro W hW
      skip
      unfold readW
      go_simp
      first | rfl | exact ⟨rfl, rfl⟩
    first | simp only [Act.put, List.setIfInBounds_toArray, List.set_cons_succ, List.set_cons_zero] | skip
    apply L.rdt (i := 2) rfl (by kernel_rfl) hC rfl
    · intro W hW
      have r1 := hW.box.cell 1
      unfold readW
      go_simp
      first | rfl | exact ⟨rfl, rfl⟩
    first | simp only [Act.put, List.setIfInBounds_toArray, List.set_cons_succ, List.set_cons_zero] | skip
    apply L.rdt (i := 3) rfl (by kernel_rfl) hC rfl
    · intro W hW
      skip
      unfold readW
      go_simp
      first | rfl | exact ⟨rfl, rfl⟩
    first | simp only [Act.put, List.setIfInBounds_toArray, List.set_cons_succ, List.set_cons_zero] | skip
    apply L.rdt (i := 4) rfl (by kernel_rfl) hC rfl
    · intro W hW
      skip
      unfold readW
      go_simp
      first | rfl | exact ⟨rfl, rfl⟩
    first | simp only [Act.put, List.setIfInBounds_toArray, List.set_cons_succ, List.set_cons_zero] | skip
    apply L.rdt (i := 5) rfl (by kernel_rfl) hC rfl
    · intro W hW
      skip
      unfold readW
      go_simp
      first | rfl | exact ⟨rfl, rfl⟩
    first | simp only [Act.put, List.setIfInBounds_toArray, List.set_cons_succ, List.set_cons_zero] | skip
    apply L.rdt (i := 6) rfl (by kernel_rfl) hC rfl
    · intro W hW
      have r2 := hW.mb_.cell 2
      unfold readW
      go_simp
      first | rfl | exact ⟨rfl, rfl⟩
    first | simp only [Act.put, List.setIfInBounds_toArray, List.set_cons_succ, List.set_cons_zero] | skip
    apply L.rdt (i := 7) rfl (by kernel_rfl) hC rfl
    · intro W hW
      skip
      unfold readW
      go_simp
      first | rfl | exact ⟨rfl, rfl⟩
    first | simp only [Act.put, List.setIfInBounds_toArray, List.set_cons_succ, List.set_cons_zero] | skip
    apply L.one (i := 8) rfl (by kernel_rfl) rfl
    unfold stepT
    go_simp
    go_at_call 99
    refine (HP.out wd hC.bel).mono ?_
    rintro e w2 ⟨⟨hfull, rfl, hM2⟩ | ⟨hroom, rfl, hM2⟩, hb2, -⟩
    all_goals
      have HM2 := Lib.hid hM2
      have HB2 : Hid (Below mb w w2) := (HW.out.trans (hC.bel.mono (by omega))).trans hb2
      clear hM2 hb2 hC
      refine ⟨_, rfl, ?_⟩
      first | simp only [Act.put, List.setIfInBounds_toArray, List.set_cons_succ, List.set_cons_zero] | skip
      apply L.rdl (i := 9) rfl (by kernel_rfl) rfl
      · intro W
        unfold readW
        go_simp
        first | rfl | exact ⟨rfl, rfl⟩
      first | simp only [Act.put, List.setIfInBounds_toArray, List.set_cons_succ, List.set_cons_zero] | skip
      apply L.rdl (i := 10) rfl (by kernel_rfl) rfl
      · intro W
        unfold readW
        go_simp
        first | rfl | exact ⟨rfl, rfl⟩
      first | simp only [Act.put, List.setIfInBounds_toArray, List.set_cons_succ, List.set_cons_zero] | skip
      refine L.done (by kernel_rfl) ?_
    · have HFU := Lib.hid hfull
      clear hfull
      go_wp2
      exact bodyPost_ret (v := .tuple #[.bool true, .int .i64 14]) (by simp [results, Try.results72, go_sem]) rfl ⟨.inr ⟨14, true, HBK.out.trans (if_pos HFU.out), rfl, fun h => absurd h (by decide)⟩, HB2.out⟩
    · have HRO := Lib.hid hroom
      clear hroom
      go_wp2
      exact bodyPost_ret (v := .tuple #[.bool true, .int .i64 0]) (by simp [results, Try.results72, go_sem]) rfl ⟨.inl ⟨_, HBK.out.trans (if_neg HRO.out), rfl, HM2.out⟩, HB2.out⟩
  rw [if_neg h3] at HBK
  have k3 : (op == 3) = false := by rw [beq_eq_false_iff_ne]; exact h3
  clear h3
  by_cases h5 : op = 5
  · subst h5
    rw [if_pos rfl] at HBK
    have HP := push_any HM.out hl (pc + 1) (-1)
    rw [e1] at HP
    replace HP := Lib.hid HP
    go_wp2_with fail
    refine (HP.out).mono ?_
    rintro e w2 ⟨⟨hfull, rfl, hM2⟩ | ⟨hroom, rfl, hM2⟩, hb2, hk2⟩
    all_goals
      have hx2 := hk2 _ _ _ (by omega) (by decide) HX.out
      have v1 : w2.cell? ⟨w.heap.size, 1, none⟩ = some (.int .i64 (n : Int)) := hx2.cell 1
      have HM2 := Lib.hid hM2
      have HB2 := Lib.hid hb2
      obtain ⟨V2, cp2, hbm, -⟩ := hM2
      have u1 := hbm.cell 1
      have g1 := hbm.frozen 1
      simp only [List.getElem?_toArray, List.getElem?_cons_succ, List.getElem?_cons_zero] at u1
      clear hb2 hk2 hx2 hbm HP
    · have HFU := Lib.hid hfull
      clear hfull
      go_wp2
      exact bodyPost_ret (v := .tuple #[.bool true, .int .i64 14]) (by simp [results, Try.results72, go_sem]) rfl ⟨.inr ⟨14, true, HBK.out.trans (if_pos HFU.out), rfl, fun h => absurd h (by decide)⟩, HW.out.trans (HB2.out.setCell (Nat.le_refl _) _)⟩
    · have HRO := Lib.hid hroom
      clear hroom
      go_wp2
      exact bodyPost_ret (v := .tuple #[.bool true, .int .i64 0]) (by simp [results, Try.results72, go_sem]) rfl ⟨.inl ⟨_, HBK.out.trans (if_neg HRO.out), rfl, HM2.out.setPc n⟩, HW.out.trans (HB2.out.setCell (Nat.le_refl _) _)⟩
  rw [if_neg h5] at HBK
  have k5 : (op == 5) = false := by rw [beq_eq_false_iff_ne]; exact h5
  clear h5
  by_cases h7 : op = 7
  · subst h7
    rw [if_pos rfl] at HBK
    go_wp2_with fail
    refine (HFF.out _ HM.out).mono ?_
    rintro e w3 ⟨⟨hf, rfl⟩ | ⟨m, hf, rfl, hm⟩, hbl⟩
    · have HF := Lib.hid hf
      have HBL := Lib.hid hbl
      clear hf hbl
      go_wp2
      exact bodyPost_ret (v := .tuple #[.bool false, .int .i64 0]) (by simp [results, Try.results72, go_sem]) rfl ⟨.inr ⟨0, false, HBK.out.trans HF.out, rfl, fun _ => rfl⟩, HW.out.trans HBL.out⟩
    · have HF := Lib.hid hf
      have HBL := Lib.hid hbl
      have HM3 := Lib.hid hm
      clear hf hbl hm
      go_wp2
      exact bodyPost_ret (v := .tuple #[.bool true, .int .i64 0]) (by simp [results, Try.results72, go_sem]) rfl ⟨.inl ⟨_, HBK.out.trans HF.out, rfl, HM3.out⟩, HW.out.trans HBL.out⟩
  rw [if_neg h7] at HBK
  have k7 : (op == 7) = false := by rw [beq_eq_false_iff_ne]; exact h7
  clear h7
  have x2 : W1.cell? ⟨w.heap.size, 2, none⟩ = some (.int .u64 (a : Int)) := HX.out.cell 2
  have x3 : W1.cell? ⟨w.heap.size, 3, none⟩ = some (.int .u64 (b : Int)) := HX.out.cell 3
  have x4 : W1.cell? ⟨w.heap.size, 4, none⟩ = some (.int .u64 (c : Int)) := HX.out.cell 4
  have x5 : W1.cell? ⟨w.heap.size, 5, none⟩ = some (.int .u64 (d : Int)) := HX.out.cell 5
  have HBA := Lib.hid (back_any op n a b c d HM.out hl)
  go_wp2_with fail
  refine (HBA.out).mono ?_
  rintro e w3 ⟨⟨m, hf, rfl, hm⟩ | ⟨z, bb, hf, rfl, hz⟩, hbl⟩
  · have HF := Lib.hid hf
    have HBL := Lib.hid hbl
    have HM3 := Lib.hid hm
    clear hf hbl hm
    go_wp2
    exact bodyPost_ret (v := .tuple #[.bool true, .int .i64 0]) (by simp [results, Try.results72, go_sem]) rfl ⟨.inl ⟨_, HBK.out.trans HF.out, rfl, HM3.out⟩, HW.out.trans HBL.out⟩
  · have HF := Lib.hid hf
    have HBL := Lib.hid hbl
    have HZ := Lib.hid hz
    clear hf hbl hz
    go_wp2
    exact bodyPost_ret (v := .tuple #[.bool bb, .int .i64 z]) (by simp [results, Try.results72, go_sem]) rfl ⟨.inr ⟨z, bb, HBK.out.trans HF.out, rfl, HZ.out⟩, HW.out.trans HBL.out⟩
end Go.Proofs.Ytphfckihdhmhpaa
