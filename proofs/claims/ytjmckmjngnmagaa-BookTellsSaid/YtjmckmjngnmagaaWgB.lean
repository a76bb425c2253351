/- The walk of the law WellGuards. -/
import Derived.Test.YtjmckmjngnmagaaWgA
import Derived.Deep.DeepCutAuto
namespace Go.Proofs.Ytjmckmjngnmagaa
open Go.RowKit Go.Maps

def gdG1 : List Rl := [(nameA, ofN 5 [litE ⟨#[120]⟩, refE ⟨#[97]⟩])]
def gdG2 : List Rl := [(nameA, ofN 5 [ofN 9 [litE ⟨#[120]⟩], refE ⟨#[97]⟩])]
theorem gd_1 : wellG gdG1 = (0, 0) := by decide +kernel
theorem gd_2 : wellG gdG2 = (0, 8) := by decide +kernel
/-- what the loop's region loads -/
structure GuC (nb : Nat) (V : Option Addr) (j c rb : Nat) (rcs : Array Value) (W : World) : Prop where
  hb : Blk W nb 24 #[.slice V j c]
  rule : Blk W rb 63 rcs
theorem GuC.below {nb : Nat} {V : Option Addr} {j c rb : Nat} {rcs : Array Value} {W W' : World} (h : GuC nb V j c rb rcs W) (hb : Below W.heap.size W W') : GuC nb V j c rb rcs W' := ⟨h.hb.below hb h.hb.lt, h.rule.below hb h.rule.lt⟩

set_option maxRecDepth 100000 in
set_option maxHeartbeats 8000000 in
theorem walk_WellGuards {g : List Rl} {A : Option Addr} {cp : Nat} {row : Nat → List Value} (w : World) (h : GrIs w w.heap.size g A cp row) (_hwf : ∀ r ∈ g, WfE r.2) (hz : g.length ≤ 1466015503690) :
    Calls Try.prog 8 #[.agg #[.slice A g.length cp]] w fun e w' => e = .returned (.bool true) ∧ Below w.heap.size w w' := by
  have hlit := lit_b ⟨#[120]⟩
  have href := ref_b ⟨#[97]⟩
  have hof := of_b
  have hone1 := fun (W : World) (b : Nat) (hb : Blk W b 35 (exCells 3 0 0 0 0 ⟨#[120]⟩ none 0 0 ++ exCells 4 0 0 0 0 ⟨#[97]⟩ none 0 0).toArray) =>
    one_b (ofN 5 [litE ⟨#[120]⟩, refE ⟨#[97]⟩]) _ W (ex_two (litE_is W _ (by decide)) (refE_is W _ (by decide)) hb (by simp) 5)
  have hone2 := fun (W : World) (b b' : Nat) (hb : Blk W b 35 (exCells 3 0 0 0 0 ⟨#[120]⟩ none 0 0).toArray) (hb' : Blk W b' 35 (exCells 9 0 0 0 0 ⟨#[]⟩ (some ⟨b, 0, none⟩) 1 1 ++ exCells 4 0 0 0 0 ⟨#[97]⟩ none 0 0).toArray) =>
    one_b (ofN 5 [ofN 9 [litE ⟨#[120]⟩], refE ⟨#[97]⟩]) _ W (ex_two (ex_one (litE_is W _ (by decide)) hb (by simp) 9) (refE_is W _ (by decide)) hb' (by simp) 5)
  unfold exCells at hlit href hof hone1 hone2
  simp only [List.cons_append, List.nil_append] at hone1 hone2
  obtain ⟨i0, hi0, hz0, hz1, hz2⟩ := info_parts rule_info
  have hgw := guard_well g
  have hgcap := h.cap
  have hgle := h.le
  unfold maxLen at hgcap
  have HG := Lib.hid h
  have HL := Lib.hid hlit
  have HF := Lib.hid href
  have HO := Lib.hid hof
  have H1 := Lib.hid hone1
  have H2 := Lib.hid hone2
  have HGW := Lib.hid hgw
  clear hlit href hof hone1 hone2 h hgw
  go_enter Try.func8, Try.ntmps8
  go_wp2_with fail
  refine (HL.out _).mono ?_
  rintro e w1 ⟨rfl, hb1⟩
  have hgx : Blk w1 w.heap.size 24 #[.slice A g.length cp] := (blk_at rfl).below hb1 (by simp)
  have hw1 : Below w.heap.size w w1 := ((Below.refl _ w).alloc (Nat.le_refl _) _).trans (hb1.mono (by simp))
  clear hb1
  go_wp2_with fail
  refine (HF.out _).mono ?_
  rintro e w2 ⟨rfl, hb2⟩
  have hgx2 := hgx.below hb2 hgx.lt
  have hw2 := hw1.trans (hb2.mono hw1.size)
  have hz2' := hw2.size
  have hgl2 := hgx2.lt
  clear hb2 hgx hw1
  go_wp2_with fail
  refine (HO.out _ _ _ _ _).mono ?_
  rintro e w3 ⟨rfl, hb3⟩
  have hk3 := Blk.below (blk_at (w := w2) (t := 35) rfl) hb3 (by simp)
  have hgx3 := (hgx2.alloc _).below hb3 (by simp; omega)
  have hw3 : Below w.heap.size w w3 := (hw2.alloc hz2' _).trans (hb3.mono (by simp; omega))
  clear hb3
  go_wp2_with fail
  refine (H1.out _ _ hk3).mono ?_
  rintro e w4 ⟨b, rfl, hG, hb4⟩
  have hgx4 := hgx3.below hb4 hgx3.lt
  have hw4 := hw3.trans (hb4.mono hw3.size)
  clear hb4 hgx3 hw3 hk3 hgx2 hw2 hz2' hgl2
  go_wp2_with fail
  refine (well_any hG).mono ?_
  unfold WellQ
  rintro e w5 ⟨rfl, hb5⟩
  have hgx5 := hgx4.below hb5 hgx4.lt
  have hw5 := hw4.trans (hb5.mono hw4.size)
  clear hb5 hgx4 hw4 hG
  rw [show wellG [(nameA, ofN 5 [litE ⟨#[120]⟩, refE ⟨#[97]⟩])] = (0, 0) from gd_1]
  go_wp2_with fail
  refine (HL.out _).mono ?_
  rintro e w6 ⟨rfl, hb6⟩
  have hgx6 := hgx5.below hb6 hgx5.lt
  have hw6 := hw5.trans (hb6.mono hw5.size)
  have hz6 := hw6.size
  have hgl6 := hgx6.lt
  clear hb6 hgx5 hw5
  go_wp2_with fail
  refine (HO.out _ _ _ _ _).mono ?_
  rintro e w7 ⟨rfl, hb7⟩
  have hk7 := Blk.below (blk_at (w := w6) (t := 35) rfl) hb7 (by simp)
  have hgx7 := (hgx6.alloc _).below hb7 (by simp; omega)
  have hw7 : Below w.heap.size w w7 := (hw6.alloc hz6 _).trans (hb7.mono (by simp; omega))
  clear hb7 hgx6
  go_wp2_with fail
  refine (HF.out _).mono ?_
  rintro e w7b ⟨rfl, hb7b⟩
  have hk7b := hk7.below hb7b hk7.lt
  have hgx7b := hgx7.below hb7b hgx7.lt
  have hw7b := hw7.trans (hb7b.mono hw7.size)
  have hz7 := hw7b.size
  have hgl7 := hgx7b.lt
  clear hb7b hgx7 hk7 hw7
  go_wp2_with fail
  refine (HO.out _ _ _ _ _).mono ?_
  rintro e w8 ⟨rfl, hb8⟩
  have hk8 := (hk7b.alloc _).below hb8 (by have := hk7b.lt; simp; omega)
  have hk8' := Blk.below (blk_at (w := w7b) (t := 35) rfl) hb8 (by simp)
  have hgx8 := (hgx7b.alloc _).below hb8 (by simp; omega)
  have hw8 : Below w.heap.size w w8 := (hw7b.alloc hz7 _).trans (hb8.mono (by simp; omega))
  clear hb8 hgx7b hk7b hw7b hw6
  go_wp2_with fail
  refine (H2.out _ _ _ hk8 hk8').mono ?_
  rintro e w9 ⟨b9, rfl, hG, hb9⟩
  have hgx9 := hgx8.below hb9 hgx8.lt
  have hw9 := hw8.trans (hb9.mono hw8.size)
  clear hb9 hgx8 hw8 hk8 hk8'
  go_wp2_with fail
  refine (well_any hG).mono ?_
  unfold WellQ
  rintro e w10 ⟨rfl, hb10⟩
  have hgx10 := hgx9.below hb10 hgx9.lt
  have hw10 := hw9.trans (hb10.mono hw9.size)
  have hz10 := hw10.size
  have hgl10 := hgx10.lt
  have g10 : w10.cell? ⟨w.heap.size, 0, none⟩ = some (.slice A g.length cp) := hgx10.cell 0
  clear hb10 hgx9 hw9 hG
  rw [show wellG [(nameA, ofN 5 [ofN 9 [litE ⟨#[120]⟩], refE ⟨#[97]⟩])] = (0, 8) from gd_2]
  have hstart : GuI A cp g w w10.heap.size none 0 (fun _ => []) 0 (w10.alloc (.cells #[.slice none 0 0] 24)) :=
    ⟨(by repeat (first | exact Below.refl _ _ | assumption | refine Below.drew ?_ | refine below_drewN ?_ _ | refine Below.alloc ?_ (by first | omega | (simp; omega) | simp) _ | refine Below.setCell ?_ (by first | omega | (simp; omega) | simp) _)), hgx10.alloc _, by omega, blk_at rfl, World.ownsRow_nil _ _ _ _, fun i r hr => by simp at hr⟩
  have HST := Lib.hid hstart
  clear hstart
  go_wp2
  go_loopw [40] (fun i wr => ∃ j : Nat, j ≤ g.length ∧ i = .int .i64 j ∧ ∃ V c row', GuI A cp g w w10.heap.size V c row' j wr) (fun i _ => g.length - (intOf i).toNat)
  case atStart => exact ⟨0, by omega, rfl, _, _, _, HST.out⟩
  case round =>
    obtain ⟨j, hj, rfl, V, c, row', hI⟩ := hrel
    by_cases hjn : j < g.length
    · have hbw := hI.bel
      have hzw := hbw.size
      have hnl := hI.hb.lt
      have hnlo := hI.nlo
      obtain ⟨ad, nm, k', a', b', c', d', t', ks', A', cp', rfl, hab, hej, hnm, hE, hS⟩ := HG.out.rule hjn
      have hcc : Eight wr (ad.add (j * 8)) nm k' a' b' c' d' t' A' ks'.length cp' :=
        have hk := fun (q : Addr) (hq : q.block = (ad.add (j * 8)).block) => hbw.cell (p := q) (by rw [hq, add_block]; omega)
        ⟨(hk _ rfl).trans hS.c0, (hk ⟨_, _, none⟩ rfl).trans hS.c1, (hk ⟨_, _, none⟩ rfl).trans hS.c2, (hk ⟨_, _, none⟩ rfl).trans hS.c3, (hk ⟨_, _, none⟩ rfl).trans hS.c4, (hk ⟨_, _, none⟩ rfl).trans hS.c5, (hk ⟨_, _, none⟩ rfl).trans hS.c6, (hk ⟨_, _, none⟩ rfl).trans hS.c7⟩
      obtain ⟨y0, y1, y2, y3, y4, y5, y6, y7⟩ := hcc
      have had1 : ad.block < wr.heap.size := by omega
      have hjl : (j : Int) < (g.length : Int) := by omega
      have g0 : wr.cell? ⟨w.heap.size, 0, none⟩ = some (.slice (some ad) g.length cp) := hI.gb.cell 0
      have hC0 : GuC w10.heap.size V j c wr.heap.size #[.string nm, .int .i64 k', .int .u64 a', .int .u64 b', .int .u64 c', .int .u64 d', .string t', .slice A' ks'.length cp'] (wr.alloc (.cells #[.string nm, .int .i64 k', .int .u64 a', .int .u64 b', .int .u64 c', .int .u64 d', .string t', .slice A' ks'.length cp'] 63)) := ⟨hI.hb.alloc _, blk_at rfl⟩
      have hI1 : GuI (some ad) cp g w w10.heap.size V c row' j (wr.alloc (.cells #[.string nm, .int .i64 k', .int .u64 a', .int .u64 b', .int .u64 c', .int .u64 d', .string t', .slice A' ks'.length cp'] 63)) := hI.alloc _
      have hrbne : some wr.heap.size ≠ (Value.slice V j c).ownBlock := fun e => by have := (hI.own.lt _ e.symm).2; omega
      have HE := Lib.hid hE
      have HEJ := Lib.hid hej
      have HNM := Lib.hid hnm
      clear hS hE hej hnm hI
      go_upto_region 11 with fail
      generalize (wr.alloc (.cells #[.string nm, .int .i64 k', .int .u64 a', .int .u64 b', .int .u64 c', .int .u64 d', .string t', .slice A' ks'.length cp'] 63)) = w11 at hC0 hI1 ⊢
      generalize wr.heap.size = rb at hC0 hrbne ⊢
      clear y0 y1 y2 y3 y4 y5 y6 y7 g0 had1 hbw
      refine wp_region_l (GuC w10.heap.size V j c rb #[.string nm, .int .i64 k', .int .u64 a', .int .u64 b', .int .u64 c', .int .u64 d', .string t', .slice A' ks'.length cp']) (· == 13) (by kernel_rfl) ?_
      have hC := hC0.below (Below.refl _ _).drew
      have hI := hI1.drew
      generalize w11.drew = wd at hC hI ⊢
      clear hC0 hI1
      apply L.rd (i := 0) rfl (by kernel_rfl) hC rfl
      · intro W hW
        skip
        unfold readW
        go_simp
        first | rfl | exact ⟨rfl, rfl⟩
      first | simp only [Act.put, List.setIfInBounds_toArray, List.set_cons_succ, List.set_cons_zero] | skip
      apply L.rd (i := 1) rfl (by kernel_rfl) hC rfl
      · intro W hW
        have n0 := hW.hb.cell 0
        unfold readW
        go_simp
        first | rfl | exact ⟨rfl, rfl⟩
      first | simp only [Act.put, List.setIfInBounds_toArray, List.set_cons_succ, List.set_cons_zero] | skip
      apply L.rd (i := 2) rfl (by kernel_rfl) hC rfl
      · intro W hW
        skip
        unfold readW
        go_simp
        first | rfl | exact ⟨rfl, rfl⟩
      first | simp only [Act.put, List.setIfInBounds_toArray, List.set_cons_succ, List.set_cons_zero] | skip
      apply L.rd (i := 3) rfl (by kernel_rfl) hC rfl
      · intro W hW
        have n0 := hW.rule.cell 0
        unfold readW
        go_simp
        first | rfl | exact ⟨rfl, rfl⟩
      first | simp only [Act.put, List.setIfInBounds_toArray, List.set_cons_succ, List.set_cons_zero] | skip
      apply L.rd (i := 5) rfl (by kernel_rfl) hC rfl
      · intro W hW
        skip
        unfold readW
        go_simp
        first | rfl | exact ⟨rfl, rfl⟩
      first | simp only [Act.put, List.setIfInBounds_toArray, List.set_cons_succ, List.set_cons_zero] | skip
      apply L.rd (i := 6) rfl (by kernel_rfl) hC rfl
      · intro W hW
        have r1 := hW.rule.cell 1; have r2 := hW.rule.cell 2; have r3 := hW.rule.cell 3; have r4 := hW.rule.cell 4; have r5 := hW.rule.cell 5; have r6 := hW.rule.cell 6; have r7 := hW.rule.cell 7
        unfold readW
        go_simp
        first | rfl | exact ⟨rfl, rfl⟩
      first | simp only [Act.put, List.setIfInBounds_toArray, List.set_cons_succ, List.set_cons_zero] | skip
      apply L.one (i := 4) rfl (by kernel_rfl) rfl
      unfold stepT
      go_simp
      go_at_call 18
      refine (HL.out _).mono ?_
      rintro e wn ⟨rfl, hbn⟩
      have hC := hC.below hbn
      have hI := hI.below hbn
      clear hbn
      refine ⟨_, rfl, hC, ?_⟩
      first | simp only [Act.put, List.setIfInBounds_toArray, List.set_cons_succ, List.set_cons_zero] | skip
      apply L.one (i := 7) rfl (by kernel_rfl) rfl
      unfold stepT
      go_simp
      have hkb : Blk (wn.alloc (.cells (twoX (exCells k' a' b' c' d' t' A' ks'.length cp')).toArray 35)) wn.heap.size 35 (twoX (exCells k' a' b' c' d' t' A' ks'.length cp')).toArray := blk_at rfl
      have hnk : w10.heap.size < wn.heap.size := hC.hb.lt
      have hC := hC.below ((Below.refl _ _).alloc (Nat.le_refl _) (.cells (twoX (exCells k' a' b' c' d' t' A' ks'.length cp')).toArray 35))
      have hI := hI.alloc (.cells (twoX (exCells k' a' b' c' d' t' A' ks'.length cp')).toArray 35)
      have hfold : (Obj.cells #[.int .i64 3, .int .u64 0, .int .u64 0, .int .u64 0, .int .u64 0, .string ⟨#[120]⟩, .slice none 0 0, .int .i64 k', .int .u64 a', .int .u64 b', .int .u64 c', .int .u64 d', .string t', .slice A' ks'.length cp'] 35) = .cells (twoX (exCells k' a' b' c' d' t' A' ks'.length cp')).toArray 35 := rfl
      rw [hfold]
      clear hfold
      generalize (wn.alloc (.cells (twoX (exCells k' a' b' c' d' t' A' ks'.length cp')).toArray 35)) = wk at hC hI hkb ⊢
      generalize wn.heap.size = kb at hkb hnk ⊢
      refine ⟨hC, ?_⟩
      apply L.one (i := 8) rfl (by kernel_rfl) rfl
      unfold stepT
      go_simp
      go_at_call 17
      refine (HO.out _ _ _ _ _).mono ?_
      rintro e wn ⟨rfl, hbn⟩
      have hC := hC.below hbn
      have hI := hI.below hbn
      have hkb := hkb.below hbn hkb.lt
      clear hbn
      refine ⟨_, rfl, hC, ?_⟩
      first | simp only [Act.put, List.setIfInBounds_toArray, List.set_cons_succ, List.set_cons_zero] | skip
      apply L.rd (i := 9) rfl (by kernel_rfl) hC rfl
      · intro W hW
        skip
        unfold readW
        go_simp
        first | rfl | exact ⟨rfl, rfl⟩
      first | simp only [Act.put, List.setIfInBounds_toArray, List.set_cons_succ, List.set_cons_zero] | skip
      apply L.one (i := 10) rfl (by kernel_rfl) rfl
      unfold stepT
      go_simp
      have hal : Below wn.heap.size wn (wn.alloc (.cells #[.string nm, .int .i64 5, .int .u64 0, .int .u64 0, .int .u64 0, .int .u64 0, .string ⟨#[]⟩, .slice (some ⟨kb, 0, none⟩) 2 2] 63)) := (Below.refl _ _).alloc (Nat.le_refl _) _
      have hC := hC.below hal
      have hI := hI.below hal
      have hkb := hkb.below hal hkb.lt
      have hrb : Blk (wn.alloc (.cells #[.string nm, .int .i64 5, .int .u64 0, .int .u64 0, .int .u64 0, .int .u64 0, .string ⟨#[]⟩, .slice (some ⟨kb, 0, none⟩) 2 2] 63)) wn.heap.size 63 #[.string nm, .int .i64 5, .int .u64 0, .int .u64 0, .int .u64 0, .int .u64 0, .string ⟨#[]⟩, .slice (some ⟨kb, 0, none⟩) 2 2] := blk_at rfl
      clear hal
      generalize (wn.alloc (.cells #[.string nm, .int .i64 5, .int .u64 0, .int .u64 0, .int .u64 0, .int .u64 0, .string ⟨#[]⟩, .slice (some ⟨kb, 0, none⟩) 2 2] 63)) = wr2 at hC hI hkb hrb ⊢
      generalize wn.heap.size = rb2 at hrb ⊢
      refine ⟨hC, ?_⟩
      apply L.one (i := 11) rfl (by kernel_rfl) rfl
      refine stepT_append (.tmp 45) (.tmp 54) 22 rfl (w10.heap.size + 1) 63 i0 _ 8 96 Try.underlying22 hi0 hz0 hz1 hz2 rfl (by decide) (.slice V j c) j _ (by simp [Act.eval]) hI.own ⟨rb2, 0, none⟩ 1 1 [.string nm, .int .i64 5, .int .u64 0, .int .u64 0, .int .u64 0, .int .u64 0, .string ⟨#[]⟩, .slice (some ⟨kb, 0, none⟩) 2 2] (by simp [Act.eval]) rfl (fun i u hu => by rw [addr0]; exact (hrb.cell i).trans (by rw [List.getElem?_toArray] ; exact hu)) (fun u hu => by simp at hu; rcases hu with rfl | rfl | rfl | rfl | rfl | rfl | rfl | rfl <;> rfl) (by unfold maxLen; omega) (by omega) (by have := hI.hb.lt; omega) ?_
      intro v' w3 hown hgr
      obtain ⟨V3, c3, rfl⟩ := own_form hown
      have hI3 := hI.push HEJ.out hnk HE.out hkb hown hgr
      have hC : GuC w10.heap.size V j c rb #[.string nm, .int .i64 k', .int .u64 a', .int .u64 b', .int .u64 c', .int .u64 d', .string t', .slice A' ks'.length cp'] w3 := ⟨hC.hb.grown hgr (own_ne_ty hC.hb hI.own (by decide)), hC.rule.grown hgr hrbne⟩
      refine ⟨fun _ => hC, ?_⟩
      first | simp only [Act.put, List.setIfInBounds_toArray, List.set_cons_succ, List.set_cons_zero] | skip
      apply L.rd (i := 12) rfl (by kernel_rfl) hC rfl
      · intro W hW
        skip
        unfold readW
        go_simp
        first | rfl | exact ⟨rfl, rfl⟩
      first | simp only [Act.put, List.setIfInBounds_toArray, List.set_cons_succ, List.set_cons_zero] | skip
      have n0 := hC.hb.cell 0
      have f0 := hC.hb.frozen 0
      apply L.one (i := 13) rfl (by kernel_rfl) rfl
      unfold stepT
      go_simp
      refine L.done (by kernel_rfl) ?_
      have HI3 := Lib.hid hI3
      clear hI hI3 hC hown hgr hkb hrb n0 f0
      go_wp2
      go_roundw
      case rel => exact ⟨j + 1, by omega, by go_num, _, _, _, HI3.out⟩
      case measure => simp [intOf]; omega
    · obtain rfl : j = g.length := by omega
      have hgr := hI.gr HG.out
      have hwl := well_any hgr
      have hck := fun W (hW : Below wr.heap.size wr W) => gcheck_any (hgr.grow hW)
      simp only [guard_len] at hwl hck
      have hbw := hI.bel
      have hzw := hbw.size
      have n0 : wr.cell? ⟨w10.heap.size, 0, none⟩ = some (.slice V g.length c) := hI.hb.cell 0
      have hnb := hI.hb
      have hnl := hI.hb.lt
      have g0 : wr.cell? ⟨w.heap.size, 0, none⟩ = some (.slice A g.length cp) := hI.gb.cell 0
      have HCK := Lib.hid hck
      have HWL := Lib.hid hwl
      unfold WellQ at HWL
      obtain ⟨hne8, hor⟩ := HGW.out
      generalize (wellG (guardG g)).2 = x at HWL hne8 hor
      generalize (wellG (guardG g)).1 = x1 at HWL
      generalize checkG (guardG g) = y at HCK hor
      clear hI hgr hwl hck HGW
      go_wp2_with fail
      refine HWL.out.mono ?_
      rintro e w12 ⟨rfl, hb12⟩
      have hnb12 := hnb.below hb12 hnl
      have n1 : w12.cell? ⟨w10.heap.size, 0, none⟩ = some (.slice V g.length c) := hnb12.cell 0
      have hw12 := hbw.trans (hb12.mono hzw)
      have hz12 := hw12.size
      have h8 : (x != 8) = true := by rw [bne_iff_ne]; exact hne8
      by_cases hx0 : x = 0
      · subst hx0
        clear hor hne8 hb12
        go_wp2
        go_ret
        exact ⟨rfl, (by repeat (first | exact Below.refl _ _ | assumption | refine Below.drew ?_ | refine below_drewN ?_ _ | refine Below.alloc ?_ (by first | omega | (simp; omega) | simp) _ | refine Below.setCell ?_ (by first | omega | (simp; omega) | simp) _))⟩
      · by_cases hx9 : x = 9
        · subst hx9
          clear hor hne8 hb12
          go_wp2
          go_ret
          exact ⟨rfl, (by repeat (first | exact Below.refl _ _ | assumption | refine Below.drew ?_ | refine below_drewN ?_ _ | refine Below.alloc ?_ (by first | omega | (simp; omega) | simp) _ | refine Below.setCell ?_ (by first | omega | (simp; omega) | simp) _))⟩
        · have hy : y ≠ 0 := by
            rcases hor with h | h | h
            · exact absurd h hx0
            · exact absurd h hx9
            · exact h
          have hyb : (y != 0) = true := by rw [bne_iff_ne]; exact hy
          have hb0 : (x == 0) = false := by rw [beq_eq_false_iff_ne]; exact hx0
          have hb9 : (x == 9) = false := by rw [beq_eq_false_iff_ne]; exact hx9
          have hckk := HCK.out w12 hb12
          have HC2 := Lib.hid hckk
          clear hor hne8 hx0 hx9 hy hckk hb12
          go_wp2_with fail
          refine HC2.out.mono ?_
          rintro e w13 ⟨rfl, hb13⟩
          have hw13 := hw12.trans (hb13.mono hz12)
          go_wp2
          go_ret
          exact ⟨rfl, (by repeat (first | exact Below.refl _ _ | assumption | refine Below.drew ?_ | refine below_drewN ?_ _ | refine Below.alloc ?_ (by first | omega | (simp; omega) | simp) _ | refine Below.setCell ?_ (by first | omega | (simp; omega) | simp) _))⟩
end Go.Proofs.Ytjmckmjngnmagaa
