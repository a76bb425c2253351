/- The walk of the law MeanMore. -/
import Derived.Test.YtjmckmjngnmagaaMrI
import Derived.Test.YtjmckmjngnmagaaQSpine
namespace Go.Proofs.Ytjmckmjngnmagaa
open Go.RowKit Go.Maps

def oneG : List Rl := [(nameA, litE ⟨#[120]⟩)]
theorem one_look : lookG oneG ⟨#[120]⟩ = 0 := by decide +kernel
theorem one_ev : ev oneG [120] 1 (litE ⟨#[120]⟩) 0 = some (some 1) := by decide +kernel
theorem one_cost : cost oneG [120] 1 (.ex (litE ⟨#[120]⟩)) 0 = 1 := by decide +kernel
theorem one_costs : Costs oneG ⟨#[120]⟩ 1 (some 1) := fun _ => ⟨1, _, rfl, one_ev, one_cost.symm⟩
theorem one_runs {v : Option Nat} {n x : Int} (h : MRunR oneG ⟨#[120]⟩ 9 1 (some 1) v n x) : v = some 1 ∧ n = 1 ∧ x = 0 := by
  rcases h with ⟨h, _⟩ | ⟨_, h, _⟩ | ⟨_, _, _, h, _⟩ | ⟨_, _, _, h1, h2, h3⟩
  · exact absurd one_look h
  · omega
  · omega
  · exact ⟨h1, h2, h3⟩

set_option maxRecDepth 100000 in
set_option maxHeartbeats 16000000 in
theorem walk_MeanMore {g : List Rl} {A : Option Addr} {cp : Nat} {row : Nat → List Value} (s : ByteArray) (more : Int) (_hm : I64 more) (w : World) (h : GrIs w w.heap.size g A cp row) (hwf : ∀ r ∈ g, WfE r.2) :
    Calls Try.prog 5 #[.agg #[.slice A g.length cp], .string s, .int .i64 more] w fun e w' => e = .returned (.bool true) ∧ Below w.heap.size w w' := by
  have hso := run_same_out
  have hlit := lit_b ⟨#[120]⟩
  have hone := fun W => one_b (litE ⟨#[120]⟩) _ W (litE_is W ⟨#[120]⟩ (by decide))
  obtain ⟨C, o, hC⟩ := costs g s
  have hmr := fun (steps : Int) W (hW : Below w.heap.size w W) => mrun_any (h.grow hW) hwf s steps hC
  unfold exCells at hlit hone
  have HM := Lib.hid hmr
  have HL := Lib.hid hlit
  have HO := Lib.hid hone
  have HC := Lib.hid hC
  clear hmr hlit hone h hwf hC
  go_enter Try.func5, Try.ntmps5
  go_wp2_with fail
  refine (HL.out _).mono ?_
  rintro e w1 ⟨rfl, hb1⟩
  have hgx : Blk w1 w.heap.size 24 #[.slice A g.length cp] := (blk_at rfl).below hb1 (by simp)
  have hw1 : Below w.heap.size w w1 := ((Below.refl _ w).alloc (Nat.le_refl _) _).trans (hb1.mono (by simp))
  clear hb1
  go_wp2_with fail
  refine (HO.out _).mono ?_
  rintro e w3 ⟨b, rfl, hG, hb3⟩
  have hgx3 := hgx.below hb3 hgx.lt
  have hw3 := hw1.trans (hb3.mono hw1.size)
  clear hb3 hgx hw1
  go_wp2_with fail
  refine (mrun_any hG (wf_g1 (wf_lit _)) ⟨#[120]⟩ 9 one_costs).mono ?_
  rintro e w4 ⟨v1, n1, x1, hv1, rfl, hb4⟩
  obtain ⟨rfl, rfl, rfl⟩ := one_runs hv1
  have hgx4 := hgx3.below hb4 hgx3.lt
  have hw4 := hw3.trans (hb4.mono hw3.size)
  have hz4 := hw4.size
  have hgl4 := hgx4.lt
  have g4 : w4.cell? ⟨w.heap.size, 0, none⟩ = some (.slice A g.length cp) := hgx4.cell 0
  have hov : outV (some 1) = .agg #[.bool true, .int .i64 1] := rfl
  rw [hov]
  clear hb4 hgx3 hw3 hG hv1 hov
  go_wp2_with fail
  refine (HM.out 1048576 _ (by repeat (first | exact Below.refl _ _ | assumption | refine Below.drew ?_ | refine below_drewN ?_ _ | refine Below.alloc ?_ (by first | omega | (simp; omega) | simp) _ | refine Below.setCell ?_ (by first | omega | (simp; omega) | simp) _))).mono ?_
  rintro e w5 ⟨v, n, x, hv, rfl, hb5⟩
  have hgx5 := (hgx4.alloc _).below hb5 (by simp; omega)
  have hw5 : Below w.heap.size w w5 := (hw4.alloc hz4 _).trans (hb5.mono (by simp; omega))
  have hz5 := hw5.size
  have hgl5 := hgx5.lt
  rw [outV_eq]
  clear hb5 hgx4 hw4 g4
  have hbad : (x ≠ 0 ∧ n = 0) ∨ (lookG g s = 0 ∧ (C : Int) ≤ 1048576 ∧ v = o ∧ n = C ∧ x = 0) := by
    rcases hv with ⟨h, _, h2, h3⟩ | ⟨_, h, _⟩ | ⟨_, _, _, _, h1, h2, h3⟩ | ⟨h0, h1, _, h3, h4, h5⟩
    · exact .inl ⟨by rw [h3]; exact h, h2⟩
    · omega
    · exact .inl ⟨by omega, h2⟩
    · exact .inr ⟨h0, h1, h3, h4, h5⟩
  clear hv
  rcases hbad with ⟨hx, rfl⟩ | ⟨hl0, hCm, rfl, rfl, rfl⟩
  · have hxb : (x != 0) = true := by rw [bne_iff_ne]; exact hx
    clear hx
    go_wp2
    go_ret
    exact ⟨rfl, (by repeat (first | exact Below.refl _ _ | assumption | refine Below.drew ?_ | refine below_drewN ?_ _ | refine Below.alloc ?_ (by first | omega | (simp; omega) | simp) _ | refine Below.setCell ?_ (by first | omega | (simp; omega) | simp) _))⟩
  · have hC1 : 1 ≤ C := by
      obtain ⟨nn, r, hr, hev, hcost⟩ := HC.out hl0
      rw [hcost]
      exact cost_pos _ _ _ _ _ _ hev
    have hl1 : ¬ ((C : Int) < 1) := by omega
    have hl2 : ¬ ((1048576 : Int) < (C : Int)) := by omega
    obtain ⟨D, hD⟩ : ∃ D : Nat, D = 1048576 - C + 1 := ⟨_, rfl⟩
    have hwa : IntKind.i64.wrap ((1048576 : Int) - (C : Int)) = 1048576 - (C : Int) := wrap_i64 _ (by omega) (by omega)
    have hwb : IntKind.i64.wrap ((1048576 : Int) - (C : Int) + 1) = (D : Int) := by rw [wrap_i64 _ (by omega) (by omega)]; omega
    have hj1 := wiN_lt more (show 0 < D by omega)
    have hj2 := wiN_lt more (show 0 < C by omega)
    have hi1 := fun W => within_any more D (by omega) (by omega) W
    have hi2 := fun W => within_any more C (by omega) (by omega) W
    have hD2 : D ≤ 1048576 - C + 1 := by omega
    generalize wiN more D = j1 at hj1 hi1
    generalize wiN more C = j2 at hj2 hi2
    have hwc : IntKind.i64.wrap ((C : Int) + (j1 : Int)) = (C : Int) + (j1 : Int) := wrap_i64 _ (by omega) (by omega)
    have hm9 : ∀ W, Below w.heap.size w W → Calls Try.prog 24 #[.agg #[.slice A g.length cp], .string s, .int .i64 ((C : Int) + (j1 : Int))] W fun e w' => e = .returned (.tuple #[.agg #[.bool v.isSome, .int .i64 (v.getD 0 : Nat)], .int .i64 C, .int .i64 0]) ∧ Below W.heap.size W w' := fun W hW =>
      (HM.out ((C : Int) + (j1 : Int)) W hW).mono fun e w' ⟨v', n', x', hv', he, hb⟩ => by
        rcases hv' with ⟨h, _⟩ | ⟨_, h, _⟩ | ⟨_, _, _, h, _⟩ | ⟨_, _, _, h3, h4, h5⟩
        · exact absurd hl0 h
        · omega
        · omega
        · subst h3 h4 h5; rw [he, outV_eq]; exact ⟨rfl, hb⟩
    have hm10 : ∀ W, Below w.heap.size w W → Calls Try.prog 24 #[.agg #[.slice A g.length cp], .string s, .int .i64 (j2 : Int)] W fun e w' => e = .returned (.tuple #[.agg #[.bool false, .int .i64 0], .int .i64 0, .int .i64 10]) ∧ Below W.heap.size W w' := fun W hW =>
      (HM.out (j2 : Int) W hW).mono fun e w' ⟨v', n', x', hv', he, hb⟩ => by
        rcases hv' with ⟨h, _⟩ | ⟨_, h, _⟩ | ⟨_, _, _, _, h3, h4, h5⟩ | ⟨_, h, _⟩
        · exact absurd hl0 h
        · omega
        · subst h3 h4 h5; rw [he, outV_eq]; exact ⟨rfl, hb⟩
        · omega
    generalize v.isSome = vb at hm9 ⊢
    generalize ((v.getD 0 : Nat) : Int) = vn at hm9 ⊢
    have HI1 := Lib.hid hi1
    have HI2 := Lib.hid hi2
    have HM9 := Lib.hid hm9
    have HM10 := Lib.hid hm10
    have hx6 : Blk (w5.alloc (.cells #[.bool vb, .int .i64 vn] 47)) w5.heap.size 47 #[.bool vb, .int .i64 vn] := blk_at rfl
    have hgx6 := hgx5.alloc (.cells #[.bool vb, .int .i64 vn] 47)
    have hw6 : Below w.heap.size w (w5.alloc (.cells #[.bool vb, .int .i64 vn] 47)) := (by repeat (first | exact Below.refl _ _ | assumption | refine Below.drew ?_ | refine below_drewN ?_ _ | refine Below.alloc ?_ (by first | omega | (simp; omega) | simp) _ | refine Below.setCell ?_ (by first | omega | (simp; omega) | simp) _))
    clear hi1 hi2 hm9 hm10 hl0 hD
    go_upto_region 9 with fail
    generalize (w5.alloc (.cells #[.bool vb, .int .i64 vn] 47)) = w6 at hx6 hgx6 hw6 ⊢
    have g6 : w6.cell? ⟨w.heap.size, 0, none⟩ = some (.slice A g.length cp) := hgx6.cell 0
    have hz6 := hw6.size
    have hgl6 := hgx6.lt
    have hxl6 := hx6.lt
    go_cut [13, 14, 15] (fun s13 s14 s15 wx => ∃ bo, s13 = .pointer (some ⟨bo, 0, none⟩) ∧ s14 = .int .i64 C ∧ s15 = .int .i64 0 ∧ Blk wx bo 47 #[.bool vb, .int .i64 vn] ∧ Below w6.heap.size w6 wx)
    case first =>
      clear hso hgx5 hw5 hz5 hgl5 hz4 hgl4
      have gcc := fun W (hW : Below w6.heap.size w6 W) => (hgx6.below hW hgl6).cell 0
      have GCC := Lib.hid gcc
      have hm9b := fun W (hW : Below w6.heap.size w6 W) => HM9.out W (hw6.trans (hW.mono hz6))
      have HM9B := Lib.hid hm9b
      clear gcc hm9b
      refine wp_region_g (Below w6.heap.size w6) (by kernel_rfl) ?_
      have hC : Below w6.heap.size w6 w6.drew := (Below.refl _ _).drew
      generalize w6.drew = wd at hC ⊢
      apply G.rd (i := 0) rfl (by kernel_rfl) hC rfl
      · intro W hW
        have g0 := GCC.out W hW
        unfold readAt
        go_simp
        first | rfl | exact ⟨rfl, rfl⟩
      first | simp only [Act.put, List.setIfInBounds_toArray, List.set_cons_succ, List.set_cons_zero] | skip
      apply G.rd (i := 1) rfl (by kernel_rfl) hC rfl
      · intro W hW
        skip
        unfold readAt
        go_simp
        first | rfl | exact ⟨rfl, rfl⟩
      first | simp only [Act.put, List.setIfInBounds_toArray, List.set_cons_succ, List.set_cons_zero] | skip
      apply G.rd (i := 2) rfl (by kernel_rfl) hC rfl
      · intro W hW
        skip
        unfold readAt
        go_simp
        first | rfl | exact ⟨rfl, rfl⟩
      first | simp only [Act.put, List.setIfInBounds_toArray, List.set_cons_succ, List.set_cons_zero] | skip
      apply G.rd (i := 3) rfl (by kernel_rfl) hC rfl
      · intro W hW
        skip
        unfold readAt
        go_simp
        first | rfl | exact ⟨rfl, rfl⟩
      first | simp only [Act.put, List.setIfInBounds_toArray, List.set_cons_succ, List.set_cons_zero] | skip
      apply G.rd (i := 4) rfl (by kernel_rfl) hC rfl
      · intro W hW
        skip
        unfold readAt
        go_simp
        first | rfl | exact ⟨rfl, rfl⟩
      first | simp only [Act.put, List.setIfInBounds_toArray, List.set_cons_succ, List.set_cons_zero] | skip
      apply G.rd (i := 5) rfl (by kernel_rfl) hC rfl
      · intro W hW
        skip
        unfold readAt
        go_simp
        first | rfl | exact ⟨rfl, rfl⟩
      first | simp only [Act.put, List.setIfInBounds_toArray, List.set_cons_succ, List.set_cons_zero] | skip
      apply G.rd (i := 6) rfl (by kernel_rfl) hC rfl
      · intro W hW
        skip
        unfold readAt
        go_simp
        first | rfl | exact ⟨rfl, rfl⟩
      first | simp only [Act.put, List.setIfInBounds_toArray, List.set_cons_succ, List.set_cons_zero] | skip
      refine G.two (i := 7) (k := 14) rfl rfl (by kernel_rfl) rfl rfl ?_ ?_
      · unfold stepTo
        go_simp
        go_at_call 25
        refine (HI1.out _).mono ?_
        rintro e wn ⟨rfl, hbn⟩
        have hC := hC.trans (hbn.mono hC.size)
        clear hbn
        refine ⟨_, rfl, hC, ?_⟩
        first | simp only [Act.put, List.setIfInBounds_toArray, List.set_cons_succ, List.set_cons_zero] | skip
        apply G.rd (i := 8) rfl (by kernel_rfl) hC rfl
        · intro W hW
          skip
          unfold readAt
          go_simp
          first | rfl | exact ⟨rfl, rfl⟩
        first | simp only [Act.put, List.setIfInBounds_toArray, List.set_cons_succ, List.set_cons_zero] | skip
        refine G.two (i := 9) (k := 14) rfl rfl (by kernel_rfl) rfl rfl ?_ ?_
        · unfold stepTo
          go_simp
          go_at_call 24
          refine (HM9B.out _ hC).mono ?_
          rintro e wn ⟨rfl, hbn⟩
          have hC := hC.trans (hbn.mono hC.size)
          clear hbn
          refine ⟨_, rfl, hC, ?_⟩
          first | simp only [Act.put, List.setIfInBounds_toArray, List.set_cons_succ, List.set_cons_zero] | skip
          apply G.rd (i := 10) rfl (by kernel_rfl) hC rfl
          · intro W hW
            skip
            unfold readAt
            go_simp
            first | rfl | exact ⟨rfl, rfl⟩
          first | simp only [Act.put, List.setIfInBounds_toArray, List.set_cons_succ, List.set_cons_zero] | skip
          apply G.rd (i := 11) rfl (by kernel_rfl) hC rfl
          · intro W hW
            skip
            unfold readAt
            go_simp
            first | rfl | exact ⟨rfl, rfl⟩
          first | simp only [Act.put, List.setIfInBounds_toArray, List.set_cons_succ, List.set_cons_zero] | skip
          apply G.rd (i := 12) rfl (by kernel_rfl) hC rfl
          · intro W hW
            skip
            unfold readAt
            go_simp
            first | rfl | exact ⟨rfl, rfl⟩
          first | simp only [Act.put, List.setIfInBounds_toArray, List.set_cons_succ, List.set_cons_zero] | skip
          apply G.rd (i := 13) rfl (by kernel_rfl) hC rfl
          · intro W hW
            skip
            unfold readAt
            go_simp
            first | rfl | exact ⟨rfl, rfl⟩
          first | simp only [Act.put, List.setIfInBounds_toArray, List.set_cons_succ, List.set_cons_zero] | skip
          apply G.one (i := 14) rfl (by kernel_rfl) rfl
          unfold stepTo
          go_simp
          have hbl := hC.size
          have hbx : Blk (wn.alloc (.cells #[.bool false, .int .i64 0] 47)) wn.heap.size 47 #[.bool false, .int .i64 0] := blk_at rfl
          have hC := hC.alloc hbl (.cells #[.bool false, .int .i64 0] 47)
          generalize (wn.alloc (.cells #[.bool false, .int .i64 0] 47)) = wa at hbx hC ⊢
          generalize wn.heap.size = bo at hbx hbl ⊢
          refine ⟨hC, ?_⟩
          first | simp only [Act.put, List.setIfInBounds_toArray, List.set_cons_succ, List.set_cons_zero] | skip
          have z0 := hbx.cell 0
          have z1 := hbx.cell 1
          have f0 := hbx.frozen 0
          have f1 := hbx.frozen 1
          apply G.one (i := 15) rfl (by kernel_rfl) rfl
          unfold stepTo
          go_simp
          have hbx := (hbx.set_ 0 (.bool vb)).set_ 1 (.int .i64 vn)
          have hC := (hC.setCell (p := ⟨bo, 0, none⟩) hbl (.bool vb)).setCell (p := ⟨bo, 1, none⟩) hbl (.int .i64 vn)
          refine ⟨hC, ?_⟩
          clear z0 z1 f0 f1
          first | simp only [Act.put] | skip
          apply G.rd (i := 16) rfl (by kernel_rfl) hC rfl
          · intro W hW
            skip
            unfold readAt
            go_simp
            first | rfl | exact ⟨rfl, rfl⟩
          first | simp only [Act.put, List.setIfInBounds_toArray, List.set_cons_succ, List.set_cons_zero] | skip
          apply G.rd (i := 17) rfl (by kernel_rfl) hC rfl
          · intro W hW
            skip
            unfold readAt
            go_simp
            first | rfl | exact ⟨rfl, rfl⟩
          first | simp only [Act.put, List.setIfInBounds_toArray, List.set_cons_succ, List.set_cons_zero] | skip
          refine G.done (by kernel_rfl) ?_
          go_wp2_with fail
          go_meet
          exact ⟨bo, rfl, rfl, rfl, hbx, hC⟩
        · unfold stepTo
          go_simp
          have hbl := hC.size
          have hbx : Blk (wn.alloc (.cells #[.bool false, .int .i64 0] 47)) wn.heap.size 47 #[.bool false, .int .i64 0] := blk_at rfl
          have hC := hC.alloc hbl (.cells #[.bool false, .int .i64 0] 47)
          generalize (wn.alloc (.cells #[.bool false, .int .i64 0] 47)) = wa at hbx hC ⊢
          generalize wn.heap.size = bo at hbx hbl ⊢
          refine ⟨hC, ?_⟩
          first | simp only [Act.put, List.setIfInBounds_toArray, List.set_cons_succ, List.set_cons_zero] | skip
          apply G.one (i := 9) rfl (by kernel_rfl) rfl
          unfold stepTo
          go_simp
          go_at_call 24
          refine (HM9B.out _ hC).mono ?_
          rintro e wn ⟨rfl, hbn⟩
          have hbx := hbx.below hbn hbx.lt
          have hC := hC.trans (hbn.mono hC.size)
          clear hbn
          refine ⟨_, rfl, hC, ?_⟩
          first | simp only [Act.put, List.setIfInBounds_toArray, List.set_cons_succ, List.set_cons_zero] | skip
          apply G.rd (i := 10) rfl (by kernel_rfl) hC rfl
          · intro W hW
            skip
            unfold readAt
            go_simp
            first | rfl | exact ⟨rfl, rfl⟩
          first | simp only [Act.put, List.setIfInBounds_toArray, List.set_cons_succ, List.set_cons_zero] | skip
          apply G.rd (i := 11) rfl (by kernel_rfl) hC rfl
          · intro W hW
            skip
            unfold readAt
            go_simp
            first | rfl | exact ⟨rfl, rfl⟩
          first | simp only [Act.put, List.setIfInBounds_toArray, List.set_cons_succ, List.set_cons_zero] | skip
          apply G.rd (i := 12) rfl (by kernel_rfl) hC rfl
          · intro W hW
            skip
            unfold readAt
            go_simp
            first | rfl | exact ⟨rfl, rfl⟩
          first | simp only [Act.put, List.setIfInBounds_toArray, List.set_cons_succ, List.set_cons_zero] | skip
          apply G.rd (i := 13) rfl (by kernel_rfl) hC rfl
          · intro W hW
            skip
            unfold readAt
            go_simp
            first | rfl | exact ⟨rfl, rfl⟩
          first | simp only [Act.put, List.setIfInBounds_toArray, List.set_cons_succ, List.set_cons_zero] | skip
          have z0 := hbx.cell 0
          have z1 := hbx.cell 1
          have f0 := hbx.frozen 0
          have f1 := hbx.frozen 1
          apply G.one (i := 15) rfl (by kernel_rfl) rfl
          unfold stepTo
          go_simp
          have hbx := (hbx.set_ 0 (.bool vb)).set_ 1 (.int .i64 vn)
          have hC := (hC.setCell (p := ⟨bo, 0, none⟩) hbl (.bool vb)).setCell (p := ⟨bo, 1, none⟩) hbl (.int .i64 vn)
          refine ⟨hC, ?_⟩
          clear z0 z1 f0 f1
          first | simp only [Act.put] | skip
          apply G.rd (i := 16) rfl (by kernel_rfl) hC rfl
          · intro W hW
            skip
            unfold readAt
            go_simp
            first | rfl | exact ⟨rfl, rfl⟩
          first | simp only [Act.put, List.setIfInBounds_toArray, List.set_cons_succ, List.set_cons_zero] | skip
          apply G.rd (i := 17) rfl (by kernel_rfl) hC rfl
          · intro W hW
            skip
            unfold readAt
            go_simp
            first | rfl | exact ⟨rfl, rfl⟩
          first | simp only [Act.put, List.setIfInBounds_toArray, List.set_cons_succ, List.set_cons_zero] | skip
          refine G.done (by kernel_rfl) ?_
          go_wp2_with fail
          go_meet
          exact ⟨bo, rfl, rfl, rfl, hbx, hC⟩
      · unfold stepTo
        go_simp
        have hbl := hC.size
        have hbx : Blk (wd.alloc (.cells #[.bool false, .int .i64 0] 47)) wd.heap.size 47 #[.bool false, .int .i64 0] := blk_at rfl
        have hC := hC.alloc hbl (.cells #[.bool false, .int .i64 0] 47)
        generalize (wd.alloc (.cells #[.bool false, .int .i64 0] 47)) = wa at hbx hC ⊢
        generalize wd.heap.size = bo at hbx hbl ⊢
        refine ⟨hC, ?_⟩
        first | simp only [Act.put, List.setIfInBounds_toArray, List.set_cons_succ, List.set_cons_zero] | skip
        apply G.one (i := 7) rfl (by kernel_rfl) rfl
        unfold stepTo
        go_simp
        go_at_call 25
        refine (HI1.out _).mono ?_
        rintro e wn ⟨rfl, hbn⟩
        have hbx := hbx.below hbn hbx.lt
        have hC := hC.trans (hbn.mono hC.size)
        clear hbn
        refine ⟨_, rfl, hC, ?_⟩
        first | simp only [Act.put, List.setIfInBounds_toArray, List.set_cons_succ, List.set_cons_zero] | skip
        apply G.rd (i := 8) rfl (by kernel_rfl) hC rfl
        · intro W hW
          skip
          unfold readAt
          go_simp
          first | rfl | exact ⟨rfl, rfl⟩
        first | simp only [Act.put, List.setIfInBounds_toArray, List.set_cons_succ, List.set_cons_zero] | skip
        apply G.one (i := 9) rfl (by kernel_rfl) rfl
        unfold stepTo
        go_simp
        go_at_call 24
        refine (HM9B.out _ hC).mono ?_
        rintro e wn ⟨rfl, hbn⟩
        have hbx := hbx.below hbn hbx.lt
        have hC := hC.trans (hbn.mono hC.size)
        clear hbn
        refine ⟨_, rfl, hC, ?_⟩
        first | simp only [Act.put, List.setIfInBounds_toArray, List.set_cons_succ, List.set_cons_zero] | skip
        apply G.rd (i := 10) rfl (by kernel_rfl) hC rfl
        · intro W hW
          skip
          unfold readAt
          go_simp
          first | rfl | exact ⟨rfl, rfl⟩
        first | simp only [Act.put, List.setIfInBounds_toArray, List.set_cons_succ, List.set_cons_zero] | skip
        apply G.rd (i := 11) rfl (by kernel_rfl) hC rfl
        · intro W hW
          skip
          unfold readAt
          go_simp
          first | rfl | exact ⟨rfl, rfl⟩
        first | simp only [Act.put, List.setIfInBounds_toArray, List.set_cons_succ, List.set_cons_zero] | skip
        apply G.rd (i := 12) rfl (by kernel_rfl) hC rfl
        · intro W hW
          skip
          unfold readAt
          go_simp
          first | rfl | exact ⟨rfl, rfl⟩
        first | simp only [Act.put, List.setIfInBounds_toArray, List.set_cons_succ, List.set_cons_zero] | skip
        apply G.rd (i := 13) rfl (by kernel_rfl) hC rfl
        · intro W hW
          skip
          unfold readAt
          go_simp
          first | rfl | exact ⟨rfl, rfl⟩
        first | simp only [Act.put, List.setIfInBounds_toArray, List.set_cons_succ, List.set_cons_zero] | skip
        have z0 := hbx.cell 0
        have z1 := hbx.cell 1
        have f0 := hbx.frozen 0
        have f1 := hbx.frozen 1
        apply G.one (i := 15) rfl (by kernel_rfl) rfl
        unfold stepTo
        go_simp
        have hbx := (hbx.set_ 0 (.bool vb)).set_ 1 (.int .i64 vn)
        have hC := (hC.setCell (p := ⟨bo, 0, none⟩) hbl (.bool vb)).setCell (p := ⟨bo, 1, none⟩) hbl (.int .i64 vn)
        refine ⟨hC, ?_⟩
        clear z0 z1 f0 f1
        first | simp only [Act.put] | skip
        apply G.rd (i := 16) rfl (by kernel_rfl) hC rfl
        · intro W hW
          skip
          unfold readAt
          go_simp
          first | rfl | exact ⟨rfl, rfl⟩
        first | simp only [Act.put, List.setIfInBounds_toArray, List.set_cons_succ, List.set_cons_zero] | skip
        apply G.rd (i := 17) rfl (by kernel_rfl) hC rfl
        · intro W hW
          skip
          unfold readAt
          go_simp
          first | rfl | exact ⟨rfl, rfl⟩
        first | simp only [Act.put, List.setIfInBounds_toArray, List.set_cons_succ, List.set_cons_zero] | skip
        refine G.done (by kernel_rfl) ?_
        go_wp2_with fail
        go_meet
        exact ⟨bo, rfl, rfl, rfl, hbx, hC⟩
    case rest =>
    obtain ⟨bo, rfl, rfl, rfl, hbo, hw8⟩ := hcut
    have hgx8 := hgx6.below hw8 hgl6
    have hx8 := hx6.below hw8 hxl6
    have hww8 := hw6.trans (hw8.mono hz6)
    have hz8 := hww8.size
    have hgl8 := hgx8.lt
    have hxl8 := hx8.lt
    have hbl8 := hbo.lt
    have gcc := fun W (hW : Below wc.heap.size wc W) => (hgx8.below hW hgl8).cell 0
    have GCC := Lib.hid gcc
    have hm10b := fun W (hW : Below wc.heap.size wc W) => HM10.out W (hww8.trans (hW.mono hz8))
    have HM10B := Lib.hid hm10b
    have HX8 := Lib.hid hx8
    have HBO := Lib.hid hbo
    clear gcc hm10b hgx6 hx6 hw6 hw8 hgl6 hxl6 g6 hz6 hx8 hbo
    go_upto_region 10 with fail
    go_cut [18] (fun s18 wx => s18 = .int .i64 10 ∧ Below wc.heap.size wc wx)
    case first =>
      clear hso hgx5 hw5 hz5 hgl5 hz4 hgl4
      refine wp_region_g (Below wc.heap.size wc) (by kernel_rfl) ?_
      have hC : Below wc.heap.size wc wc.drew := (Below.refl _ _).drew
      generalize wc.drew = wd at hC ⊢
      apply G.rd (i := 0) rfl (by kernel_rfl) hC rfl
      · intro W hW
        have g0 := GCC.out W hW
        unfold readAt
        go_simp
        first | rfl | exact ⟨rfl, rfl⟩
      first | simp only [Act.put, List.setIfInBounds_toArray, List.set_cons_succ, List.set_cons_zero] | skip
      apply G.rd (i := 1) rfl (by kernel_rfl) hC rfl
      · intro W hW
        skip
        unfold readAt
        go_simp
        first | rfl | exact ⟨rfl, rfl⟩
      first | simp only [Act.put, List.setIfInBounds_toArray, List.set_cons_succ, List.set_cons_zero] | skip
      apply G.rd (i := 2) rfl (by kernel_rfl) hC rfl
      · intro W hW
        skip
        unfold readAt
        go_simp
        first | rfl | exact ⟨rfl, rfl⟩
      first | simp only [Act.put, List.setIfInBounds_toArray, List.set_cons_succ, List.set_cons_zero] | skip
      apply G.rd (i := 3) rfl (by kernel_rfl) hC rfl
      · intro W hW
        skip
        unfold readAt
        go_simp
        first | rfl | exact ⟨rfl, rfl⟩
      first | simp only [Act.put, List.setIfInBounds_toArray, List.set_cons_succ, List.set_cons_zero] | skip
      refine G.two (i := 4) (k := 10) rfl rfl (by kernel_rfl) rfl rfl ?_ ?_
      · unfold stepTo
        go_simp
        go_at_call 25
        refine (HI2.out _).mono ?_
        rintro e wn ⟨rfl, hbn⟩
        have hC := hC.trans (hbn.mono hC.size)
        clear hbn
        refine ⟨_, rfl, hC, ?_⟩
        first | simp only [Act.put, List.setIfInBounds_toArray, List.set_cons_succ, List.set_cons_zero] | skip
        refine G.two (i := 5) (k := 10) rfl rfl (by kernel_rfl) rfl rfl ?_ ?_
        · unfold stepTo
          go_simp
          go_at_call 24
          refine (HM10B.out _ hC).mono ?_
          rintro e wn ⟨rfl, hbn⟩
          have hC := hC.trans (hbn.mono hC.size)
          clear hbn
          refine ⟨_, rfl, hC, ?_⟩
          first | simp only [Act.put, List.setIfInBounds_toArray, List.set_cons_succ, List.set_cons_zero] | skip
          apply G.rd (i := 6) rfl (by kernel_rfl) hC rfl
          · intro W hW
            skip
            unfold readAt
            go_simp
            first | rfl | exact ⟨rfl, rfl⟩
          first | simp only [Act.put, List.setIfInBounds_toArray, List.set_cons_succ, List.set_cons_zero] | skip
          apply G.rd (i := 7) rfl (by kernel_rfl) hC rfl
          · intro W hW
            skip
            unfold readAt
            go_simp
            first | rfl | exact ⟨rfl, rfl⟩
          first | simp only [Act.put, List.setIfInBounds_toArray, List.set_cons_succ, List.set_cons_zero] | skip
          apply G.rd (i := 8) rfl (by kernel_rfl) hC rfl
          · intro W hW
            skip
            unfold readAt
            go_simp
            first | rfl | exact ⟨rfl, rfl⟩
          first | simp only [Act.put, List.setIfInBounds_toArray, List.set_cons_succ, List.set_cons_zero] | skip
          apply G.rd (i := 9) rfl (by kernel_rfl) hC rfl
          · intro W hW
            skip
            unfold readAt
            go_simp
            first | rfl | exact ⟨rfl, rfl⟩
          first | simp only [Act.put, List.setIfInBounds_toArray, List.set_cons_succ, List.set_cons_zero] | skip
          apply G.one (i := 10) rfl (by kernel_rfl) rfl
          unfold stepTo
          go_simp
          have hbl := hC.size
          have hbx : Blk (wn.alloc (.cells #[.bool false, .int .i64 0] 47)) wn.heap.size 47 #[.bool false, .int .i64 0] := blk_at rfl
          have hC := hC.alloc hbl (.cells #[.bool false, .int .i64 0] 47)
          generalize (wn.alloc (.cells #[.bool false, .int .i64 0] 47)) = wa at hbx hC ⊢
          generalize wn.heap.size = bo at hbx hbl ⊢
          refine ⟨hC, ?_⟩
          first | simp only [Act.put, List.setIfInBounds_toArray, List.set_cons_succ, List.set_cons_zero] | skip
          have z0 := hbx.cell 0
          have z1 := hbx.cell 1
          have f0 := hbx.frozen 0
          have f1 := hbx.frozen 1
          apply G.one (i := 11) rfl (by kernel_rfl) rfl
          unfold stepTo
          go_simp
          have hbx := (hbx.set_ 0 (.bool false)).set_ 1 (.int .i64 0)
          have hC := (hC.setCell (p := ⟨bo, 0, none⟩) hbl (.bool false)).setCell (p := ⟨bo, 1, none⟩) hbl (.int .i64 0)
          refine ⟨hC, ?_⟩
          clear z0 z1 f0 f1
          first | simp only [Act.put] | skip
          apply G.rd (i := 12) rfl (by kernel_rfl) hC rfl
          · intro W hW
            skip
            unfold readAt
            go_simp
            first | rfl | exact ⟨rfl, rfl⟩
          first | simp only [Act.put, List.setIfInBounds_toArray, List.set_cons_succ, List.set_cons_zero] | skip
          apply G.rd (i := 13) rfl (by kernel_rfl) hC rfl
          · intro W hW
            skip
            unfold readAt
            go_simp
            first | rfl | exact ⟨rfl, rfl⟩
          first | simp only [Act.put, List.setIfInBounds_toArray, List.set_cons_succ, List.set_cons_zero] | skip
          refine G.done (by kernel_rfl) ?_
          go_wp2_with fail
          go_meet
          exact ⟨rfl, hC⟩
        · unfold stepTo
          go_simp
          have hbl := hC.size
          have hbx : Blk (wn.alloc (.cells #[.bool false, .int .i64 0] 47)) wn.heap.size 47 #[.bool false, .int .i64 0] := blk_at rfl
          have hC := hC.alloc hbl (.cells #[.bool false, .int .i64 0] 47)
          generalize (wn.alloc (.cells #[.bool false, .int .i64 0] 47)) = wa at hbx hC ⊢
          generalize wn.heap.size = bo at hbx hbl ⊢
          refine ⟨hC, ?_⟩
          first | simp only [Act.put, List.setIfInBounds_toArray, List.set_cons_succ, List.set_cons_zero] | skip
          apply G.one (i := 5) rfl (by kernel_rfl) rfl
          unfold stepTo
          go_simp
          go_at_call 24
          refine (HM10B.out _ hC).mono ?_
          rintro e wn ⟨rfl, hbn⟩
          have hbx := hbx.below hbn hbx.lt
          have hC := hC.trans (hbn.mono hC.size)
          clear hbn
          refine ⟨_, rfl, hC, ?_⟩
          first | simp only [Act.put, List.setIfInBounds_toArray, List.set_cons_succ, List.set_cons_zero] | skip
          apply G.rd (i := 6) rfl (by kernel_rfl) hC rfl
          · intro W hW
            skip
            unfold readAt
            go_simp
            first | rfl | exact ⟨rfl, rfl⟩
          first | simp only [Act.put, List.setIfInBounds_toArray, List.set_cons_succ, List.set_cons_zero] | skip
          apply G.rd (i := 7) rfl (by kernel_rfl) hC rfl
          · intro W hW
            skip
            unfold readAt
            go_simp
            first | rfl | exact ⟨rfl, rfl⟩
          first | simp only [Act.put, List.setIfInBounds_toArray, List.set_cons_succ, List.set_cons_zero] | skip
          apply G.rd (i := 8) rfl (by kernel_rfl) hC rfl
          · intro W hW
            skip
            unfold readAt
            go_simp
            first | rfl | exact ⟨rfl, rfl⟩
          first | simp only [Act.put, List.setIfInBounds_toArray, List.set_cons_succ, List.set_cons_zero] | skip
          apply G.rd (i := 9) rfl (by kernel_rfl) hC rfl
          · intro W hW
            skip
            unfold readAt
            go_simp
            first | rfl | exact ⟨rfl, rfl⟩
          first | simp only [Act.put, List.setIfInBounds_toArray, List.set_cons_succ, List.set_cons_zero] | skip
          have z0 := hbx.cell 0
          have z1 := hbx.cell 1
          have f0 := hbx.frozen 0
          have f1 := hbx.frozen 1
          apply G.one (i := 11) rfl (by kernel_rfl) rfl
          unfold stepTo
          go_simp
          have hbx := (hbx.set_ 0 (.bool false)).set_ 1 (.int .i64 0)
          have hC := (hC.setCell (p := ⟨bo, 0, none⟩) hbl (.bool false)).setCell (p := ⟨bo, 1, none⟩) hbl (.int .i64 0)
          refine ⟨hC, ?_⟩
          clear z0 z1 f0 f1
          first | simp only [Act.put] | skip
          apply G.rd (i := 12) rfl (by kernel_rfl) hC rfl
          · intro W hW
            skip
            unfold readAt
            go_simp
            first | rfl | exact ⟨rfl, rfl⟩
          first | simp only [Act.put, List.setIfInBounds_toArray, List.set_cons_succ, List.set_cons_zero] | skip
          apply G.rd (i := 13) rfl (by kernel_rfl) hC rfl
          · intro W hW
            skip
            unfold readAt
            go_simp
            first | rfl | exact ⟨rfl, rfl⟩
          first | simp only [Act.put, List.setIfInBounds_toArray, List.set_cons_succ, List.set_cons_zero] | skip
          refine G.done (by kernel_rfl) ?_
          go_wp2_with fail
          go_meet
          exact ⟨rfl, hC⟩
      · unfold stepTo
        go_simp
        have hbl := hC.size
        have hbx : Blk (wd.alloc (.cells #[.bool false, .int .i64 0] 47)) wd.heap.size 47 #[.bool false, .int .i64 0] := blk_at rfl
        have hC := hC.alloc hbl (.cells #[.bool false, .int .i64 0] 47)
        generalize (wd.alloc (.cells #[.bool false, .int .i64 0] 47)) = wa at hbx hC ⊢
        generalize wd.heap.size = bo at hbx hbl ⊢
        refine ⟨hC, ?_⟩
        first | simp only [Act.put, List.setIfInBounds_toArray, List.set_cons_succ, List.set_cons_zero] | skip
        apply G.one (i := 4) rfl (by kernel_rfl) rfl
        unfold stepTo
        go_simp
        go_at_call 25
        refine (HI2.out _).mono ?_
        rintro e wn ⟨rfl, hbn⟩
        have hbx := hbx.below hbn hbx.lt
        have hC := hC.trans (hbn.mono hC.size)
        clear hbn
        refine ⟨_, rfl, hC, ?_⟩
        first | simp only [Act.put, List.setIfInBounds_toArray, List.set_cons_succ, List.set_cons_zero] | skip
        apply G.one (i := 5) rfl (by kernel_rfl) rfl
        unfold stepTo
        go_simp
        go_at_call 24
        refine (HM10B.out _ hC).mono ?_
        rintro e wn ⟨rfl, hbn⟩
        have hbx := hbx.below hbn hbx.lt
        have hC := hC.trans (hbn.mono hC.size)
        clear hbn
        refine ⟨_, rfl, hC, ?_⟩
        first | simp only [Act.put, List.setIfInBounds_toArray, List.set_cons_succ, List.set_cons_zero] | skip
        apply G.rd (i := 6) rfl (by kernel_rfl) hC rfl
        · intro W hW
          skip
          unfold readAt
          go_simp
          first | rfl | exact ⟨rfl, rfl⟩
        first | simp only [Act.put, List.setIfInBounds_toArray, List.set_cons_succ, List.set_cons_zero] | skip
        apply G.rd (i := 7) rfl (by kernel_rfl) hC rfl
        · intro W hW
          skip
          unfold readAt
          go_simp
          first | rfl | exact ⟨rfl, rfl⟩
        first | simp only [Act.put, List.setIfInBounds_toArray, List.set_cons_succ, List.set_cons_zero] | skip
        apply G.rd (i := 8) rfl (by kernel_rfl) hC rfl
        · intro W hW
          skip
          unfold readAt
          go_simp
          first | rfl | exact ⟨rfl, rfl⟩
        first | simp only [Act.put, List.setIfInBounds_toArray, List.set_cons_succ, List.set_cons_zero] | skip
        apply G.rd (i := 9) rfl (by kernel_rfl) hC rfl
        · intro W hW
          skip
          unfold readAt
          go_simp
          first | rfl | exact ⟨rfl, rfl⟩
        first | simp only [Act.put, List.setIfInBounds_toArray, List.set_cons_succ, List.set_cons_zero] | skip
        have z0 := hbx.cell 0
        have z1 := hbx.cell 1
        have f0 := hbx.frozen 0
        have f1 := hbx.frozen 1
        apply G.one (i := 11) rfl (by kernel_rfl) rfl
        unfold stepTo
        go_simp
        have hbx := (hbx.set_ 0 (.bool false)).set_ 1 (.int .i64 0)
        have hC := (hC.setCell (p := ⟨bo, 0, none⟩) hbl (.bool false)).setCell (p := ⟨bo, 1, none⟩) hbl (.int .i64 0)
        refine ⟨hC, ?_⟩
        clear z0 z1 f0 f1
        first | simp only [Act.put] | skip
        apply G.rd (i := 12) rfl (by kernel_rfl) hC rfl
        · intro W hW
          skip
          unfold readAt
          go_simp
          first | rfl | exact ⟨rfl, rfl⟩
        first | simp only [Act.put, List.setIfInBounds_toArray, List.set_cons_succ, List.set_cons_zero] | skip
        apply G.rd (i := 13) rfl (by kernel_rfl) hC rfl
        · intro W hW
          skip
          unfold readAt
          go_simp
          first | rfl | exact ⟨rfl, rfl⟩
        first | simp only [Act.put, List.setIfInBounds_toArray, List.set_cons_succ, List.set_cons_zero] | skip
        refine G.done (by kernel_rfl) ?_
        go_wp2_with fail
        go_meet
        exact ⟨rfl, hC⟩
    case rest =>
    obtain ⟨rfl, hw9⟩ := hcut
    have hx9 := HX8.out.below hw9 hxl8
    have hb9 := HBO.out.below hw9 hbl8
    have hww9 := hww8.trans (hw9.mono hz8)
    have x0 : wc.cell? ⟨w5.heap.size, 0, none⟩ = some (.bool vb) := hx9.cell 0
    have x1 : wc.cell? ⟨w5.heap.size, 1, none⟩ = some (.int .i64 vn) := hx9.cell 1
    have b0 : wc.cell? ⟨bo, 0, none⟩ = some (.bool vb) := hb9.cell 0
    have b1 : wc.cell? ⟨bo, 1, none⟩ = some (.int .i64 vn) := hb9.cell 1
    go_wp2
    go_ret
    exact ⟨by simp, hww9⟩
end Go.Proofs.Ytjmckmjngnmagaa
