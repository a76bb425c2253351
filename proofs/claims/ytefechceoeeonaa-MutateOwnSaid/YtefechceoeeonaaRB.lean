/- chaffkeep.roomyGrammar and copied. -/
import Derived.Test.YtefechceoeeonaaRA
import Derived.Test.YtefechceoeeonaaKdR
import Derived.Deep.DeepCutAuto
namespace Go.Proofs.Ytefechceoeeonaa
open Go.RowKit Go.Maps

set_option maxRecDepth 100000 in
set_option maxHeartbeats 8000000 in
theorem roomyG_any {g : List Rl} {A : Option Addr} {cp : Nat} {row : Nat → List Value} {w : World} (h : GrIs w w.heap.size g A cp row) (hs : SmG g) : Calls Try.prog 11 #[.agg #[.slice A g.length cp]] w (RmGQ g w) := by
  have HG := Lib.hid h
  have hgcap := h.cap
  unfold maxLen at hgcap
  have hk8 := hs.1
  have hkof : ∀ (j : Nat) (nm : ByteArray) (k' a' b' c' d' : Int) (t' : ByteArray) (ks' : List Ex) (A' : Option Addr) (cp' : Nat) (W : World), Below w.heap.size w W → g[j]? = some (nm, .mk k' a' b' c' d' t' ks') → ExIs w w.heap.size (.mk k' a' b' c' d' t' ks') (exCells k' a' b' c' d' t' A' ks'.length cp') →
      Calls Try.prog 41 #[.agg #[.int .i64 k', .int .u64 a', .int .u64 b', .int .u64 c', .int .u64 d', .string t', .slice A' ks'.length cp']] W (RmQ (.mk k' a' b' c' d' t' ks') W) := fun j nm k' a' b' c' d' t' ks' A' cp' W hW hej hx =>
    roomyExpr_any _ (hs.2 _ (List.mem_of_getElem? hej)) _ W (hx.grow hW)
  have HKO := Lib.hid hkof
  have HQ : Hid (∀ W' bk rows L H, RmG W' w.heap.size W'.heap.size g bk rows L H → Below w.heap.size w W' → RmGQ g w (.returned (.agg #[.slice (some ⟨bk, 0, none⟩) g.length (g.length + 3)])) W') := fun W' bk rows L H h1 h2 => ⟨⟨bk, rows, L, H, rfl, h1⟩, h2⟩
  generalize RmGQ g w = Q at HQ ⊢
  obtain ⟨i0, hi0, hz0, hz1, hz2⟩ := info_parts rule_info
  clear hkof h hs
  go_enter Try.func11, Try.ntmps11
  go_wp2
  go_loopw [9] (fun i wr => ∃ j : Nat, j ≤ g.length ∧ i = .int .i64 j ∧ ∃ V c rows Lo Hi, RnI g w (w.heap.size + 1 + 1) V c rows Lo Hi j wr) (fun i _ => g.length - (intOf i).toNat)
  case atStart =>
    exact ⟨0, by omega, rfl, none, 0, fun _ => [], fun _ => 0, fun _ => 0, (by repeat (first | exact Below.refl _ _ | assumption | refine Below.drew ?_ | refine below_drewN ?_ _ | refine Below.alloc ?_ (by first | omega | (simp; omega) | simp) _ | refine Below.setCell ?_ (by first | omega | (simp; omega) | simp) _)), (blk_at (by simp)).alloc _, by omega, blk_at (by simp), RRus.nil _ _⟩
  case round =>
    obtain ⟨j, hj, rfl, V, c, rows, Lo, Hi, hI⟩ := hrel
    have hbw := hI.bel
    have hnl := hI.out.lt
    by_cases hjn : j < g.length
    · obtain ⟨ad, nm, k', a', b', c', d', t', ks', A', cp', rfl, hab, hej, hnm, hE, hS⟩ := HG.out.rule hjn
      have hcc : Eight wr (ad.add (j * 8)) nm k' a' b' c' d' t' A' ks'.length cp' :=
        have hk := fun (q : Addr) (hq : q.block = (ad.add (j * 8)).block) => hbw.cell (p := q) (by rw [hq, add_block]; omega)
        ⟨(hk _ rfl).trans hS.c0, (hk ⟨_, _, none⟩ rfl).trans hS.c1, (hk ⟨_, _, none⟩ rfl).trans hS.c2, (hk ⟨_, _, none⟩ rfl).trans hS.c3, (hk ⟨_, _, none⟩ rfl).trans hS.c4, (hk ⟨_, _, none⟩ rfl).trans hS.c5, (hk ⟨_, _, none⟩ rfl).trans hS.c6, (hk ⟨_, _, none⟩ rfl).trans hS.c7⟩
      obtain ⟨y0, y1, y2, y3, y4, y5, y6, y7⟩ := hcc
      have had1 : ad.block < wr.heap.size := by omega
      have hjl : (j : Int) < (g.length : Int) := by omega
      have hc1 := fun W hW => HKO.out j nm k' a' b' c' d' t' ks' A' cp' W hW hej hE
      have HC1 := Lib.hid hc1
      have HEJ := Lib.hid hej
      have HNM := Lib.hid hnm
      clear hc1 hS hE hej hnm
      have hC0 : RuC (w.heap.size + 1 + 1) wr.heap.size #[.slice V j c] #[.string nm, .int .i64 k', .int .u64 a', .int .u64 b', .int .u64 c', .int .u64 d', .string t', .slice A' ks'.length cp'] (wr.alloc (.cells #[.string nm, .int .i64 k', .int .u64 a', .int .u64 b', .int .u64 c', .int .u64 d', .string t', .slice A' ks'.length cp'] 44)) := ⟨hI.out.alloc _, blk_at rfl⟩
      have hI1 := hI.below ((Below.refl _ wr).alloc (Nat.le_refl _) (.cells #[.string nm, .int .i64 k', .int .u64 a', .int .u64 b', .int .u64 c', .int .u64 d', .string t', .slice A' ks'.length cp'] 44))
      have hll : (g.take j).length = j := by simp; omega
      have hold : ∀ q, (Value.slice V j c).ownBlock = some q → q < wr.heap.size := fun q hq => hI.rus.old q (by rw [hll]; exact hq)
      have hkne : some wr.heap.size ≠ (Value.slice V j c).ownBlock := fun e => by have := hold _ e.symm; omega
      have hone : some ((w.heap.size + 1 + 1)) ≠ (Value.slice V j c).ownBlock := fun e => by have h1 := hI.rus.own.lt ((w.heap.size + 1 + 1)) (by rw [hll]; exact e.symm); omega
      have hbase1 : (w.heap.size + 1 + 1) + 1 ≤ (wr.alloc (.cells #[.string nm, .int .i64 k', .int .u64 a', .int .u64 b', .int .u64 c', .int .u64 d', .string t', .slice A' ks'.length cp'] 44)).heap.size := by simp; omega
      have hold1 : ∀ q, (Value.slice V j c).ownBlock = some q → q < (wr.alloc (.cells #[.string nm, .int .i64 k', .int .u64 a', .int .u64 b', .int .u64 c', .int .u64 d', .string t', .slice A' ks'.length cp'] 44)).heap.size := fun q hq => by have := hold q hq; simp; omega
      have hprev1 : ∀ i, i < j → Hi i ≤ (wr.alloc (.cells #[.string nm, .int .i64 k', .int .u64 a', .int .u64 b', .int .u64 c', .int .u64 d', .string t', .slice A' ks'.length cp'] 44)).heap.size := fun i hi => (hI1.rus.le i (by rw [hll]; exact hi)).2
      clear hold hI
      go_upto_region 5 with fail
      generalize (wr.alloc (.cells #[.string nm, .int .i64 k', .int .u64 a', .int .u64 b', .int .u64 c', .int .u64 d', .string t', .slice A' ks'.length cp'] 44)) = w11 at hC0 hI1 hbase1 hold1 hprev1 ⊢
      generalize wr.heap.size = kb at hC0 hkne ⊢
      clear y0 y1 y2 y3 y4 y5 y6 y7 had1 hbw
      refine wp_region_l (RuC (w.heap.size + 1 + 1) kb #[.slice V j c] #[.string nm, .int .i64 k', .int .u64 a', .int .u64 b', .int .u64 c', .int .u64 d', .string t', .slice A' ks'.length cp']) (· == 11) (by kernel_rfl) ?_
      have hC := hC0.below (Below.refl _ _).drew
      have hI := hI1.below (Below.refl _ _).drew
      have hbd : (w11.drew).heap.size = w11.heap.size := rfl
      rw [← hbd] at hbase1 hold1 hprev1
      generalize w11.drew = wd at hC hI hbase1 hold1 hprev1 ⊢
      clear hC0 hI1 hbd
      apply L.rd (i := 0) rfl (by kernel_rfl) hC rfl
      · intro W hW
        skip
        unfold readW
        go_simp
        first | rfl | exact ⟨rfl, rfl⟩
      first | simp only [Act.put, List.setIfInBounds_toArray, List.set_cons_succ, List.set_cons_zero] | skip
      apply L.rd (i := 1) rfl (by kernel_rfl) hC rfl
      · intro W hW
        have n0 := hW.out.cell 0
        unfold readW
        go_simp
        first | rfl | exact ⟨rfl, rfl⟩
      first | simp only [Act.put, List.setIfInBounds_toArray, List.set_cons_succ, List.set_cons_zero] | skip
      apply L.rd (i := 2) rfl (by kernel_rfl) hC rfl
      · intro W hW
        skip
        unfold readW
        go_simp
        first | rfl | exact ⟨rfl, rfl⟩
      first | simp only [Act.put, List.setIfInBounds_toArray, List.set_cons_succ, List.set_cons_zero] | skip
      apply L.rd (i := 3) rfl (by kernel_rfl) hC rfl
      · intro W hW
        have n0 := hW.rule.cell 0
        unfold readW
        go_simp
        first | rfl | exact ⟨rfl, rfl⟩
      first | simp only [Act.put, List.setIfInBounds_toArray, List.set_cons_succ, List.set_cons_zero] | skip
      apply L.rd (i := 4) rfl (by kernel_rfl) hC rfl
      · intro W hW
        skip
        unfold readW
        go_simp
        first | rfl | exact ⟨rfl, rfl⟩
      first | simp only [Act.put, List.setIfInBounds_toArray, List.set_cons_succ, List.set_cons_zero] | skip
      apply L.rd (i := 5) rfl (by kernel_rfl) hC rfl
      · intro W hW
        have r1 := hW.rule.cell 1; have r2 := hW.rule.cell 2; have r3 := hW.rule.cell 3; have r4 := hW.rule.cell 4; have r5 := hW.rule.cell 5; have r6 := hW.rule.cell 6; have r7 := hW.rule.cell 7
        unfold readW
        go_simp
        first | rfl | exact ⟨rfl, rfl⟩
      first | simp only [Act.put, List.setIfInBounds_toArray, List.set_cons_succ, List.set_cons_zero] | skip
      apply L.one (i := 6) rfl (by kernel_rfl) rfl
      unfold stepT
      go_simp
      go_at_call 41
      refine (HC1.out _ hI.bel).mono ?_
      rintro e wn ⟨⟨rc, rfl, hF⟩, hbn⟩
      have hC := hC.below hbn
      have hI := hI.below hbn
      have hbase2 := Nat.le_trans hbase1 hbn.size
      clear hbn
      have hrc := ex_one' (hF.is (Nat.le_refl _))
      obtain ⟨k1, a1, b1, c1, d1, t1, A1, n1, cp1, rfl⟩ := Ex.parts _ (hF.is (Nat.le_refl _))
      refine ⟨_, rfl, hC, ?_⟩
      first | simp only [Act.put, List.setIfInBounds_toArray, List.set_cons_succ, List.set_cons_zero] | skip
      apply L.rd (i := 7) rfl (by kernel_rfl) hC rfl
      · intro W hW
        skip
        unfold readW
        go_simp
        first | rfl | exact ⟨rfl, rfl⟩
      first | simp only [Act.put, List.setIfInBounds_toArray, List.set_cons_succ, List.set_cons_zero] | skip
      apply L.one (i := 8) rfl (by kernel_rfl) rfl
      unfold stepT
      go_simp
      have hF1 : RmE (wn.alloc (.cells #[.string nm, .int .i64 k1, .int .u64 a1, .int .u64 b1, .int .u64 c1, .int .u64 d1, .string t1, .slice A1 n1 cp1] 44)) wd.heap.size (wn.alloc (.cells #[.string nm, .int .i64 k1, .int .u64 a1, .int .u64 b1, .int .u64 c1, .int .u64 d1, .string t1, .slice A1 n1 cp1] 44)).heap.size _ _ := (hF.keep (W' := (wn.alloc (.cells #[.string nm, .int .i64 k1, .int .u64 a1, .int .u64 b1, .int .u64 c1, .int .u64 d1, .string t1, .slice A1 n1 cp1] 44))) fun q _ hq => Below.heap_alloc wn _ q hq).mono (Nat.le_refl _) (by simp)
      have hkb : Blk (wn.alloc (.cells #[.string nm, .int .i64 k1, .int .u64 a1, .int .u64 b1, .int .u64 c1, .int .u64 d1, .string t1, .slice A1 n1 cp1] 44)) wn.heap.size 44 #[.string nm, .int .i64 k1, .int .u64 a1, .int .u64 b1, .int .u64 c1, .int .u64 d1, .string t1, .slice A1 n1 cp1] := blk_at rfl
      have hC := hC.below ((Below.refl _ _).alloc (Nat.le_refl _) (.cells #[.string nm, .int .i64 k1, .int .u64 a1, .int .u64 b1, .int .u64 c1, .int .u64 d1, .string t1, .slice A1 n1 cp1] 44))
      have hI := hI.below ((Below.refl _ _).alloc (Nat.le_refl _) (.cells #[.string nm, .int .i64 k1, .int .u64 a1, .int .u64 b1, .int .u64 c1, .int .u64 d1, .string t1, .slice A1 n1 cp1] 44))
      have hbase3 : (w.heap.size + 1 + 1) + 1 ≤ (wn.alloc (.cells #[.string nm, .int .i64 k1, .int .u64 a1, .int .u64 b1, .int .u64 c1, .int .u64 d1, .string t1, .slice A1 n1 cp1] 44)).heap.size := by simp; omega
      generalize (wn.alloc (.cells #[.string nm, .int .i64 k1, .int .u64 a1, .int .u64 b1, .int .u64 c1, .int .u64 d1, .string t1, .slice A1 n1 cp1] 44)) = wk at hC hI hkb hF1 hbase3 ⊢
      generalize wn.heap.size = rb at hkb ⊢
      clear hF hbase2
      refine ⟨hC, ?_⟩
      apply L.one (i := 9) rfl (by kernel_rfl) rfl
      refine stepT_append_at (.tmp 14) (.tmp 21) 22 rfl ((w.heap.size + 1 + 1) + 1) 44 i0 _ 8 96 Try.underlying22 hi0 hz0 hz1 hz2 rfl (by decide) (.slice V j c) j (ruF (g.take j) rows 0) (by simp [Act.eval]) (by have h1 := hI.rus.own; rw [hll] at h1; exact h1) ⟨rb, 0, none⟩ 1 1 (.string nm :: [.int .i64 k1, .int .u64 a1, .int .u64 b1, .int .u64 c1, .int .u64 d1, .string t1, .slice A1 n1 cp1]) (by simp [Act.eval]) rfl (fun i u hu => by rw [cell_add]; exact (hkb.cell i).trans (by rw [List.getElem?_toArray]; exact hu)) (fun u hu => by rcases List.mem_cons.1 hu with rfl | hu; rfl; exact hrc u hu) (by unfold maxLen; omega) (by omega) hbase3 ?_
      intro v' w3 hown hgr hat
      obtain ⟨V3, c3, rfl⟩ := own_form hown
      have hI3 := hI.push HEJ.out hbase1 hold1 hprev1 HNM.out hF1 hown hgr hat
      have hC := hC.grown hgr hone hkne
      refine ⟨fun _ => hC, ?_⟩
      first | simp only [Act.put, List.setIfInBounds_toArray, List.set_cons_succ, List.set_cons_zero] | skip
      apply L.rd (i := 10) rfl (by kernel_rfl) hC rfl
      · intro W hW
        skip
        unfold readW
        go_simp
        first | rfl | exact ⟨rfl, rfl⟩
      first | simp only [Act.put, List.setIfInBounds_toArray, List.set_cons_succ, List.set_cons_zero] | skip
      have n0 := hC.out.cell 0
      have f0 := hC.out.frozen 0
      apply L.one (i := 11) rfl (by kernel_rfl) rfl
      unfold stepT
      go_simp
      refine L.done (by kernel_rfl) ?_
      have HI3 := Lib.hid hI3
      clear hI hI3 hC hown hgr hkb n0 f0 hat hF1 hold1 hprev1 hbase1 hbase3 hkne hone hll
      go_wp2
      go_roundw
      case rel => exact ⟨j + 1, by omega, by go_num, _, _, _, _, _, HI3.out⟩
      case measure => simp [intOf]; omega
    · obtain rfl : j = g.length := by omega
      have hK := hI.rus
      rw [List.take_length] at hK
      have ho := hI.out
      have hrs := hI.res
      have hwz := hI.out.lt
      clear hI
      have n0 := ho.cell 0
      have f0 := ho.frozen 0
      have HN : Hid (∀ wn bk gs, wr.heap.size ≤ bk → Blk wn bk 44 gs → gs.toList = ruF g rows 0 ++ marksR 3 → Below wr.heap.size wr wn → RmG wn (w.heap.size + 1 + 1 + 1) wn.heap.size g bk rows Lo Hi) := fun wn bk gs h1 h2 h3 h4 => hK.node h4 hk8 h1 (by omega) h2 h3
      have HR := Lib.hid hK.reads
      have HO := Lib.hid hK.one
      clear hK
      go_upto_region 8 with (go_at_call 42; (refine (roomyR_any V g.length c _ wr.heap.size wr HR.out.1 HO.out (Nat.le_refl _) HR.out.2 hk8).mono ?_); rintro e wn ⟨bk, gs, rfl, hg, hgb, hgs, hbn⟩; have hN := HN.out wn bk gs hg hgb hgs hbn; have hC := ho.below hbn ho.lt; have f0 := hC.frozen 0; have n0 := hC.cell 0; have HS := Lib.hid hrs; have hrs := HS.out.below hbn HS.out.lt; have HB := Lib.hid hbw; have hbw := HB.out.trans (hbn.mono (by omega)); clear hgb hgs hg ho HS HB)
      have ho2 : Blk (wn.setCell ⟨w.heap.size + 1 + 1, 0, none⟩ (.slice (some ⟨bk, 0, none⟩) g.length (g.length + 3))) (w.heap.size + 1 + 1) 24 #[.slice (some ⟨bk, 0, none⟩) g.length (g.length + 3)] := hC.set_ 0 _
      have hrs2 := hrs.far (p := ⟨w.heap.size + 1 + 1, 0, none⟩) (by show w.heap.size + 1 ≠ w.heap.size + 1 + 1; omega) (.slice (some ⟨bk, 0, none⟩) g.length (g.length + 3))
      have hsz1 : (wn.setCell ⟨w.heap.size + 1 + 1, 0, none⟩ (.slice (some ⟨bk, 0, none⟩) g.length (g.length + 3))).heap.size = wn.heap.size := by simp [World.setCell]
      have hN2 : RmG (wn.setCell ⟨w.heap.size + 1 + 1, 0, none⟩ (.slice (some ⟨bk, 0, none⟩) g.length (g.length + 3))) (w.heap.size + 1 + 1 + 1) (wn.setCell ⟨w.heap.size + 1 + 1, 0, none⟩ (.slice (some ⟨bk, 0, none⟩) g.length (g.length + 3))).heap.size g bk rows Lo Hi := by
        rw [hsz1]
        exact hN.keep fun q q1 _ => Below.heap_setCell _ _ _ q (by show q ≠ w.heap.size + 1 + 1; omega)
      have hb2 := hbw.setCell (p := ⟨w.heap.size + 1 + 1, 0, none⟩) (by show w.heap.size ≤ w.heap.size + 1 + 1; omega) (.slice (some ⟨bk, 0, none⟩) g.length (g.length + 3))
      have HK := Lib.hid hN2
      clear hbw hrs hN hN2 hC hbn f0 n0 HR HO HN hwz hsz1
      generalize (wn.setCell ⟨w.heap.size + 1 + 1, 0, none⟩ (.slice (some ⟨bk, 0, none⟩) g.length (g.length + 3))) = wf at ho2 hrs2 HK hb2 ⊢
      have o0 : wf.cell? ⟨w.heap.size + 1 + 1, 0, none⟩ = some (.slice (some ⟨bk, 0, none⟩) g.length (g.length + 3)) := ho2.cell 0
      have z0 : wf.cell? ⟨w.heap.size + 1, 0, none⟩ = some (.slice none 0 0) := hrs2.cell 0
      have f0 := hrs2.frozen 0
      have q0 : (wf.setCell ⟨w.heap.size + 1, 0, none⟩ (.slice (some ⟨bk, 0, none⟩) g.length (g.length + 3))).cell? ⟨w.heap.size + 1, 0, none⟩ = some (.slice (some ⟨bk, 0, none⟩) g.length (g.length + 3)) := (hrs2.set_ 0 _).cell 0
      have HK2 : Hid (RmG (wf.setCell ⟨w.heap.size + 1, 0, none⟩ (.slice (some ⟨bk, 0, none⟩) g.length (g.length + 3))) w.heap.size (wf.setCell ⟨w.heap.size + 1, 0, none⟩ (.slice (some ⟨bk, 0, none⟩) g.length (g.length + 3))).heap.size g bk rows Lo Hi) := by
        show RmG _ _ _ _ _ _ _ _
        rw [show (wf.setCell ⟨w.heap.size + 1, 0, none⟩ (.slice (some ⟨bk, 0, none⟩) g.length (g.length + 3))).heap.size = wf.heap.size by simp [World.setCell]]
        exact (HK.out.keep fun q q1 _ => Below.heap_setCell _ _ _ q (by show q ≠ w.heap.size + 1; omega)).mono (by omega) (Nat.le_refl _)
      have hb3 := hb2.setCell (p := ⟨w.heap.size + 1, 0, none⟩) (by show w.heap.size ≤ w.heap.size + 1; omega) (.slice (some ⟨bk, 0, none⟩) g.length (g.length + 3))
      clear ho2 hrs2 HK hb2
      go_wp2
      exact bodyPost_ret (v := .agg #[.slice (some ⟨bk, 0, none⟩) g.length (g.length + 3)]) (by simp [results, Try.results11, go_sem, q0]) rfl (HQ.out _ _ _ _ _ HK2.out hb3)
end Go.Proofs.Ytefechceoeeonaa

/- chaffkeep.spoilExpr, spoilGrammar. -/
namespace Go.Proofs.Ytefechceoeeonaa
open Go.RowKit Go.Maps

/-- nothing is other outside the blocks from lo on to hi -/
structure OutS (lo hi : Nat) (w w' : World) : Prop where
  os : w'.os = w.os
  tape : w'.tape = w.tape
  output : w'.output = w.output
  size : w.heap.size ≤ w'.heap.size
  block : ∀ b, b < w.heap.size → b < lo ∨ hi ≤ b → w'.heap[b]? = w.heap[b]?
section
variable {lo hi lo' hi' : Nat} {a w w' : World}
theorem OutS.refl (lo hi : Nat) (w : World) : OutS lo hi w w := ⟨rfl, rfl, rfl, Nat.le_refl _, fun _ _ _ => rfl⟩
theorem OutS.trans (h : OutS lo hi a w) (k : OutS lo hi w w') : OutS lo hi a w' :=
  ⟨k.os.trans h.os, k.tape.trans h.tape, k.output.trans h.output, Nat.le_trans h.size k.size, fun b hb hn => (k.block b (Nat.lt_of_lt_of_le hb h.size) hn).trans (h.block b hb hn)⟩
theorem OutS.mono (h : OutS lo hi w w') (h1 : lo' ≤ lo) (h2 : hi ≤ hi') : OutS lo' hi' w w' := ⟨h.os, h.tape, h.output, h.size, fun b hb hn => h.block b hb (by omega)⟩
theorem OutS.of_below (h : Below w.heap.size w w') : OutS lo hi w w' := ⟨h.os, h.tape, h.output, h.size, fun b hb _ => h.block b hb⟩
theorem OutS.of_grown {g : Nat} (h : w.grownBy w' (some g)) (h1 : lo ≤ g) (h2 : g < hi) : OutS lo hi w w' := ⟨h.os, h.tape, h.output, h.size, fun b hb hn => h.block b hb (by intro e; injection e with e; omega)⟩
theorem OutS.blk {g : Nat} {t : TypeId} {cs : Array Value} (h : OutS lo hi w w') (hb : Blk w g t cs) (hg : g < lo ∨ hi ≤ g) : Blk w' g t cs := (h.block g hb.lt hg).trans hb
theorem RmE.out {e : Ex} {cs : List Value} (h : RmE w lo' hi' e cs) (ho : OutS lo hi w w') (hh : hi' ≤ w.heap.size) (hd : hi' ≤ lo ∨ hi ≤ lo') : RmE w' lo' hi' e cs := h.keep fun b b1 b2 => ho.block b (by omega) (by omega)
end
theorem row_cell {W : World} {bk n j u : Nat} {t : TypeId} {cs : Array Value} {rows : Nat → List Value} {m : List Value} {v : Value} (h7 : ∀ i, i < n → (rows i).length = 7) (hb : Blk W bk t cs) (hcs : cs.toList = kdF rows n ++ m) (hj : j < n) (hu : (rows j)[u]? = some v) : W.cell? ⟨bk, j * 7 + u, none⟩ = some v := by
  have := kdF_get h7 hj hu
  rw [hb.cell, ← Array.getElem?_toList, hcs, List.getElem?_append_left (getElem?_lt this)]
  exact this
theorem parts_of {W : World} {lo hi : Nat} {e : Ex} {cs : List Value} (h : RmE W lo hi e cs) : ∃ k a b c d t A n cp, cs = [.int .i64 k, .int .u64 a, .int .u64 b, .int .u64 c, .int .u64 d, .string t, .slice A n cp] := e.parts (h.is (Nat.le_refl _))

set_option maxRecDepth 100000 in
set_option maxHeartbeats 8000000 in
theorem spoilExpr_any (e : Ex) : ∀ (lo hi : Nat) (cs : List Value) (w : World), RmE w lo hi e cs → hi ≤ w.heap.size → Calls Try.prog 48 #[.agg cs.toArray] w (fun r w' => r = .returned (.tuple #[]) ∧ OutS lo hi w w') := by
  refine Ex.ind (P := fun e => ∀ (lo hi : Nat) (cs : List Value) (w : World), RmE w lo hi e cs → hi ≤ w.heap.size → Calls Try.prog 48 #[.agg cs.toArray] w (fun r w' => r = .returned (.tuple #[]) ∧ OutS lo hi w w')) ?_ e
  intro k a b c d t ks ih lo hi cs w hE hhi
  cases hE with
  | mk _ _ bk _ _ _ _ _ _ _ rows L H gs ht hn h1 h2 hb hcs hk hL hO =>
  have h7 : ∀ i, i < ks.length → (rows i).length = 7 := fun i hi => (hk i _ (List.getElem?_eq_getElem hi)).len7
  have hC : ∀ (j : Nat) (W : World), j < ks.length → (∀ i e, j ≤ i → ks[i]? = some e → RmE W (L i) (H i) e (rows i)) → w.heap.size ≤ W.heap.size →
      ∃ k' a' b' c' d' t' A' n' cp', rows j = [.int .i64 k', .int .u64 a', .int .u64 b', .int .u64 c', .int .u64 d', .string t', .slice A' n' cp'] ∧ ∀ W2, Below W.heap.size W W2 → Calls Try.prog 48 #[.agg #[.int .i64 k', .int .u64 a', .int .u64 b', .int .u64 c', .int .u64 d', .string t', .slice A' n' cp']] W2 (fun r w' => r = .returned (.tuple #[]) ∧ OutS (L j) (H j) W2 w') := by
    intro j W hj hW hWs
    have hr := hW j _ (Nat.le_refl _) (List.getElem?_eq_getElem hj)
    obtain ⟨k', a', b', c', d', t', A', n', cp', he⟩ := parts_of hr
    refine ⟨k', a', b', c', d', t', A', n', cp', he, fun W2 hW2 => ?_⟩
    have hl := hL j hj
    have := ih _ (List.getElem_mem hj) (L j) (H j) (rows j) W2 (hr.keep fun q _ q2 => hW2.block q (by omega)) (by have := hW2.size; omega)
    rw [he] at this
    exact this
  have HC := Lib.hid hC
  have HL := Lib.hid hL
  have HO := Lib.hid hO
  have H7 := Lib.hid h7
  have HCS := Lib.hid hcs
  have hgs : gs.size = (ks.length + 3) * 7 := by rw [← Array.length_toList, hcs, List.length_append, kdF_len h7, marks_len]; omega
  have HGS := Lib.hid hgs
  have hK0 : ∀ i e, 0 ≤ i → ks[i]? = some e → RmE (w.alloc (.cells #[.int .i64 k, .int .u64 a, .int .u64 b, .int .u64 c, .int .u64 d, .string t, .slice (some (Addr.mk bk 0 none)) ks.length (ks.length + 3)] 38)) (L i) (H i) e (rows i) := fun i e _ he => (hk i e he).keep fun q _ q2 => Below.heap_alloc _ _ _ (by have := hL i (getElem?_lt he); omega)
  have HK0 := Lib.hid hK0
  clear ih hC hL hO h7 hcs hgs hk hK0
  unfold exCells
  go_enter Try.func48, Try.ntmps48
  go_wp2
  go_loopw [7] (fun i wr => ∃ j : Nat, j ≤ ks.length ∧ i = .int .i64 j ∧ Blk wr w.heap.size 38 #[.int .i64 k, .int .u64 a, .int .u64 b, .int .u64 c, .int .u64 d, .string t, .slice (some (Addr.mk bk 0 none)) ks.length (ks.length + 3)] ∧ Blk wr bk 38 gs ∧ OutS lo hi w wr ∧ Hid (∀ i e, j ≤ i → ks[i]? = some e → RmE wr (L i) (H i) e (rows i))) (fun i _ => ks.length - (intOf i).toNat)
  case atStart => exact ⟨0, by omega, rfl, blk_at rfl, hb.alloc _, OutS.of_below (by repeat (first | exact Below.refl _ _ | assumption | refine Below.drew ?_ | refine below_drewN ?_ _ | refine Below.alloc ?_ (by first | omega | (simp; omega) | simp) _ | refine Below.setCell ?_ (by first | omega | (simp; omega) | simp) _)), HK0⟩
  case round =>
    obtain ⟨j, hj, rfl, hx, hbk, hout, HK⟩ := hrel
    clear HK0
    have hzw := hout.size
    by_cases hjn : j < ks.length
    · obtain ⟨k', a', b', c', d', t', A', n', cp', he, hcall⟩ := HC.out j wr hjn HK.out hzw
      have hy := fun u v (hu : (rows j)[u]? = some v) => row_cell H7.out hbk HCS.out hjn hu
      rw [he] at hy
      have y0 := hy 0 _ rfl
      have y1 := hy 1 _ rfl
      have y2 := hy 2 _ rfl
      have y3 := hy 3 _ rfl
      have y4 := hy 4 _ rfl
      have y5 := hy 5 _ rfl
      have y6 := hy 6 _ rfl
      have hjl : (j : Int) < (ks.length : Int) := by omega
      have HCALL := Lib.hid hcall
      clear hy he hcall
      rw [Nat.add_zero] at y0
      go_wp2_with fail
      refine (HCALL.out _ (by repeat (first | exact Below.refl _ _ | assumption | refine Below.drew ?_ | refine below_drewN ?_ _ | refine Below.alloc ?_ (by first | omega | (simp; omega) | simp) _ | refine Below.setCell ?_ (by first | omega | (simp; omega) | simp) _))).mono ?_
      rintro e w2 ⟨rfl, ho2⟩
      have hl := HL.out j hjn
      have hx2 := ho2.blk (hx.alloc _) (by omega)
      have hbk2 := ho2.blk (hbk.alloc _) (by omega)
      have hout2 := (hout.trans (OutS.of_below (by repeat (first | exact Below.refl _ _ | assumption | refine Below.drew ?_ | refine below_drewN ?_ _ | refine Below.alloc ?_ (by first | omega | (simp; omega) | simp) _ | refine Below.setCell ?_ (by first | omega | (simp; omega) | simp) _)))).trans (ho2.mono hl.1 (by omega))
      have HK2 : Hid (∀ i e, j + 1 ≤ i → ks[i]? = some e → RmE w2 (L i) (H i) e (rows i)) := fun i e hi he =>
        have hz : H i ≤ wr.heap.size := by have := HL.out i (getElem?_lt he); omega
        ((HK.out i e (by omega) he).keep fun q _ q2 => Below.heap_alloc _ _ _ (by omega)).out ho2 (by simp; omega) (.inr (HO.out j i (by omega) (getElem?_lt he)))
      clear hx hbk hout HK hl ho2 HCALL y0 y1 y2 y3 y4 y5 y6
      go_wp2
      go_roundw
      case rel => exact ⟨j + 1, by omega, by go_num, hx2, hbk2, hout2, HK2⟩
      case measure => simp [intOf]; omega
    · obtain rfl : j = ks.length := by omega
      have n0 := hx.cell 6
      go_wp2_with fail
      refine (spoilE_any bk ks.length (ks.length + 3) gs wr hbk HGS.out (by omega)).mono ?_
      rintro e w2 ⟨rfl, hg2⟩
      have hout2 := hout.trans (OutS.of_grown hg2 h1 h2)
      go_wp2
      go_end0
      exact ⟨rfl, hout2⟩
end Go.Proofs.Ytefechceoeeonaa

/- chaffkeep.spoilGrammar. -/
namespace Go.Proofs.Ytefechceoeeonaa
open Go.RowKit Go.Maps

theorem row_name {W : World} {bk j : Nat} {t : TypeId} {g : List Rl} {cs : Array Value} {rows : Nat → List Value} {m : List Value} (h7 : ∀ i, i < g.length → (rows (0 + i)).length = 7) (hb : Blk W bk t cs) (hcs : cs.toList = ruF g rows 0 ++ m) {r : Rl} (hr : g[j]? = some r) :
    W.cell? ⟨bk, j * 8, none⟩ = some (.string r.1) ∧ ∀ u v, (rows j)[u]? = some v → W.cell? ⟨bk, j * 8 + (u + 1), none⟩ = some v := by
  have h := ruF_get g rows 0 j r h7 hr
  refine ⟨?_, fun u v hu => ?_⟩
  · rw [hb.cell, ← Array.getElem?_toList, hcs, List.getElem?_append_left (getElem?_lt h.1)]
    exact h.1
  · have := h.2 u v (by rw [Nat.zero_add]; exact hu)
    rw [hb.cell, ← Array.getElem?_toList, hcs, List.getElem?_append_left (getElem?_lt this)]
    exact this

set_option maxRecDepth 100000 in
set_option maxHeartbeats 8000000 in
theorem spoilG_any {lo hi bk : Nat} {g : List Rl} {rows : Nat → List Value} {L H : Nat → Nat} {w : World} (hG : RmG w lo hi g bk rows L H) (hhi : hi ≤ w.heap.size) : Calls Try.prog 16 #[.agg #[.slice (some ⟨bk, 0, none⟩) g.length (g.length + 3)]] w (fun r w' => r = .returned (.tuple #[]) ∧ OutS lo hi w w') := by
  have h7 := hG.len7
  obtain ⟨gs, hb, hcs⟩ := hG.blk
  have h1 := hG.lob
  have h2 := hG.hib
  have hn := hG.len
  have hC : ∀ (j : Nat) (W : World), j < g.length → (∀ i e, j ≤ i → g[i]? = some e → RmE W (L i) (H i) e.2 (rows i)) → w.heap.size ≤ W.heap.size →
      ∃ k' a' b' c' d' t' A' n' cp', rows j = [.int .i64 k', .int .u64 a', .int .u64 b', .int .u64 c', .int .u64 d', .string t', .slice A' n' cp'] ∧ ∀ W2, Below W.heap.size W W2 → Calls Try.prog 48 #[.agg #[.int .i64 k', .int .u64 a', .int .u64 b', .int .u64 c', .int .u64 d', .string t', .slice A' n' cp']] W2 (fun r w' => r = .returned (.tuple #[]) ∧ OutS (L j) (H j) W2 w') := by
    intro j W hj hW hWs
    have hr := hW j _ (Nat.le_refl _) (List.getElem?_eq_getElem hj)
    obtain ⟨k', a', b', c', d', t', A', n', cp', he⟩ := parts_of hr
    refine ⟨k', a', b', c', d', t', A', n', cp', he, fun W2 hW2 => ?_⟩
    have hl := hG.inn j hj
    have := spoilExpr_any _ (L j) (H j) (rows j) W2 (hr.keep fun q _ q2 => hW2.block q (by omega)) (by have := hW2.size; omega)
    rw [he] at this
    exact this
  have HC := Lib.hid hC
  have HL := Lib.hid hG.inn
  have HO := Lib.hid hG.ord
  have H7 := Lib.hid h7
  have HCS := Lib.hid hcs
  have hgs : gs.size = (g.length + 3) * 8 := by rw [← Array.length_toList, hcs, List.length_append, ruF_len g rows 0 h7, marksR_len]; omega
  have HGS := Lib.hid hgs
  have HK0 : Hid (∀ i e, 0 ≤ i → g[i]? = some e → RmE (w.alloc (.cells #[.slice (some (Addr.mk bk 0 none)) g.length (g.length + 3)] 24)) (L i) (H i) e.2 (rows i)) := fun i e _ he => (hG.body i e he).keep fun q _ q2 => Below.heap_alloc _ _ _ (by have := hG.inn i (getElem?_lt he); omega)
  clear hC h7 hcs hgs hG
  go_enter Try.func16, Try.ntmps16
  go_wp2
  go_loopw [7] (fun i wr => ∃ j : Nat, j ≤ g.length ∧ i = .int .i64 j ∧ Blk wr w.heap.size 24 #[.slice (some (Addr.mk bk 0 none)) g.length (g.length + 3)] ∧ Blk wr bk 44 gs ∧ OutS lo hi w wr ∧ Hid (∀ i e, j ≤ i → g[i]? = some e → RmE wr (L i) (H i) e.2 (rows i))) (fun i _ => g.length - (intOf i).toNat)
  case atStart => exact ⟨0, by omega, rfl, blk_at rfl, hb.alloc _, OutS.of_below (by repeat (first | exact Below.refl _ _ | assumption | refine Below.drew ?_ | refine below_drewN ?_ _ | refine Below.alloc ?_ (by first | omega | (simp; omega) | simp) _ | refine Below.setCell ?_ (by first | omega | (simp; omega) | simp) _)), HK0⟩
  case round =>
    obtain ⟨j, hj, rfl, hx, hbk, hout, HK⟩ := hrel
    clear HK0
    have hzw := hout.size
    by_cases hjn : j < g.length
    · obtain ⟨k', a', b', c', d', t', A', n', cp', he, hcall⟩ := HC.out j wr hjn HK.out hzw
      obtain ⟨y0, hy⟩ := row_name (j := j) H7.out hbk HCS.out (List.getElem?_eq_getElem hjn)
      rw [he] at hy
      have y1 := hy 0 _ rfl
      have y2 := hy 1 _ rfl
      have y3 := hy 2 _ rfl
      have y4 := hy 3 _ rfl
      have y5 := hy 4 _ rfl
      have y6 := hy 5 _ rfl
      have y7 := hy 6 _ rfl
      have hjl : (j : Int) < (g.length : Int) := by omega
      have HCALL := Lib.hid hcall
      clear hy he hcall
      simp only [Nat.zero_add, Nat.reduceAdd] at y1 y2 y3 y4 y5 y6 y7
      generalize (g[j]'hjn).1 = nm at y0
      go_wp2_with fail
      refine (HCALL.out _ (by repeat (first | exact Below.refl _ _ | assumption | refine Below.drew ?_ | refine below_drewN ?_ _ | refine Below.alloc ?_ (by first | omega | (simp; omega) | simp) _ | refine Below.setCell ?_ (by first | omega | (simp; omega) | simp) _))).mono ?_
      rintro e w2 ⟨rfl, ho2⟩
      have hl := HL.out j hjn
      have hx2 := ho2.blk (hx.alloc _) (by omega)
      have hbk2 := ho2.blk (hbk.alloc _) (by omega)
      have hout2 := (hout.trans (OutS.of_below (by repeat (first | exact Below.refl _ _ | assumption | refine Below.drew ?_ | refine below_drewN ?_ _ | refine Below.alloc ?_ (by first | omega | (simp; omega) | simp) _ | refine Below.setCell ?_ (by first | omega | (simp; omega) | simp) _)))).trans (ho2.mono hl.1 (by omega))
      have HK2 : Hid (∀ i e, j + 1 ≤ i → g[i]? = some e → RmE w2 (L i) (H i) e.2 (rows i)) := fun i e hi he =>
        have hz : H i ≤ wr.heap.size := by have := HL.out i (getElem?_lt he); omega
        ((HK.out i e (by omega) he).keep fun q _ q2 => Below.heap_alloc _ _ _ (by omega)).out ho2 (by simp; omega) (.inr (HO.out j i (by omega) (getElem?_lt he)))
      clear hx hbk hout HK hl ho2 HCALL y0 y1 y2 y3 y4 y5 y6 y7
      go_wp2
      go_roundw
      case rel => exact ⟨j + 1, by omega, by go_num, hx2, hbk2, hout2, HK2⟩
      case measure => simp [intOf]; omega
    · obtain rfl : j = g.length := by omega
      have n0 := hx.cell 0
      go_wp2_with fail
      refine (spoilR_any bk g.length (g.length + 3) gs wr hbk HGS.out (by omega)).mono ?_
      rintro e w2 ⟨rfl, hg2⟩
      have hout2 := hout.trans (OutS.of_grown hg2 h1 h2)
      go_wp2
      go_end0
      exact ⟨rfl, hout2⟩
end Go.Proofs.Ytefechceoeeonaa

/- chaffkeep.marked. -/
namespace Go.Proofs.Ytefechceoeeonaa
open Go.RowKit Go.Maps

theorem marks_get {u : Nat} {v : Value} (hu : markE[u]? = some v) : ∀ k j, j < k → (marks k)[j * 7 + u]? = some v
  | 0, _, h => absurd h (by omega)
  | k + 1, j, h => by
    have h7 : u < 7 := getElem?_lt hu
    have hl := marks_len k
    rw [marks]
    by_cases hj : j < k
    · rw [List.getElem?_append_left (by omega)]
      exact marks_get hu k j hj
    · rw [List.getElem?_append_right (by omega), show j * 7 + u - (marks k).length = u by omega]
      exact hu
theorem mark_cell {W : World} {bk n j u : Nat} {t : TypeId} {cs : Array Value} {rows : Nat → List Value} {v : Value} (h7 : ∀ i, i < n → (rows i).length = 7) (hb : Blk W bk t cs) (hcs : cs.toList = kdF rows n ++ marks 3) (hj : j < 3) (hu : markE[u]? = some v) : W.cell? ⟨bk, n * 7 + j * 7 + u, none⟩ = some v := by
  have hl := kdF_len h7
  rw [hb.cell, ← Array.getElem?_toList, hcs, List.getElem?_append_right (by omega), hl, show n * 7 + j * 7 + u - n * 7 = j * 7 + u by omega]
  exact marks_get hu 3 j hj

set_option maxRecDepth 100000 in
set_option maxHeartbeats 8000000 in
theorem marked_any (e : Ex) : ∀ (lo hi : Nat) (cs : List Value) (w : World), RmE w lo hi e cs → hi ≤ w.heap.size → Calls Try.prog 47 #[.agg cs.toArray] w (fun r w' => r = .returned (.bool true) ∧ Below w.heap.size w w') := by
  refine Ex.ind (P := fun e => ∀ (lo hi : Nat) (cs : List Value) (w : World), RmE w lo hi e cs → hi ≤ w.heap.size → Calls Try.prog 47 #[.agg cs.toArray] w (fun r w' => r = .returned (.bool true) ∧ Below w.heap.size w w')) ?_ e
  intro k a b c d t ks ih lo hi cs w hE hhi
  cases hE with
  | mk _ _ bk _ _ _ _ _ _ _ rows L H gs ht hn h1 h2 hb hcs hk hL hO =>
  have h7 : ∀ i, i < ks.length → (rows i).length = 7 := fun i hi => (hk i _ (List.getElem?_eq_getElem hi)).len7
  have hC : ∀ (j : Nat), j < ks.length →
      ∃ k' a' b' c' d' t' A' n' cp', rows j = [.int .i64 k', .int .u64 a', .int .u64 b', .int .u64 c', .int .u64 d', .string t', .slice A' n' cp'] ∧ ∀ W2, Below w.heap.size w W2 → Calls Try.prog 47 #[.agg #[.int .i64 k', .int .u64 a', .int .u64 b', .int .u64 c', .int .u64 d', .string t', .slice A' n' cp']] W2 (fun r w' => r = .returned (.bool true) ∧ Below W2.heap.size W2 w') := by
    intro j hj
    have hr := hk j _ (List.getElem?_eq_getElem hj)
    obtain ⟨k', a', b', c', d', t', A', n', cp', he⟩ := parts_of hr
    refine ⟨k', a', b', c', d', t', A', n', cp', he, fun W2 hW2 => ?_⟩
    have hl := hL j hj
    have := ih _ (List.getElem_mem hj) (L j) (H j) (rows j) W2 (hr.keep fun q _ q2 => hW2.block q (by omega)) (by have := hW2.size; omega)
    rw [he] at this
    exact this
  have HC := Lib.hid hC
  have H7 := Lib.hid h7
  have HCS := Lib.hid hcs
  have hgs : gs.size = (ks.length + 3) * 7 := by rw [← Array.length_toList, hcs, List.length_append, kdF_len h7, marks_len]; omega
  have HGS := Lib.hid hgs
  have hbw : bk < w.heap.size := hb.lt
  have hbx : Blk w bk 38 gs := hb
  clear ih hC hL hO h7 hcs hgs hk hb
  unfold exCells
  go_enter Try.func47, Try.ntmps47
  go_wp2
  go_loopw [10] (fun i wr => ∃ j : Nat, j ≤ ks.length ∧ i = .int .i64 j ∧ Blk wr w.heap.size 38 #[.int .i64 k, .int .u64 a, .int .u64 b, .int .u64 c, .int .u64 d, .string t, .slice (some (Addr.mk bk 0 none)) ks.length (ks.length + 3)] ∧ Below w.heap.size w wr) (fun i _ => ks.length - (intOf i).toNat)
  case atStart => exact ⟨0, by omega, rfl, blk_at rfl, (by repeat (first | exact Below.refl _ _ | assumption | refine Below.drew ?_ | refine below_drewN ?_ _ | refine Below.alloc ?_ (by first | omega | (simp; omega) | simp) _ | refine Below.setCell ?_ (by first | omega | (simp; omega) | simp) _))⟩
  case round =>
    obtain ⟨j, hj, rfl, hx, hbl⟩ := hrel
    have hzw := hbl.size
    have hbk := hbx.below hbl hbw
    by_cases hjn : j < ks.length
    · obtain ⟨k', a', b', c', d', t', A', n', cp', he, hcall⟩ := HC.out j hjn
      have hy := fun u v (hu : (rows j)[u]? = some v) => row_cell H7.out hbk HCS.out hjn hu
      rw [he] at hy
      have y0 := hy 0 _ rfl
      have y1 := hy 1 _ rfl
      have y2 := hy 2 _ rfl
      have y3 := hy 3 _ rfl
      have y4 := hy 4 _ rfl
      have y5 := hy 5 _ rfl
      have y6 := hy 6 _ rfl
      have hjl : (j : Int) < (ks.length : Int) := by omega
      have HCALL := Lib.hid hcall
      clear hy he hcall
      rw [Nat.add_zero] at y0
      go_wp2_with fail
      refine (HCALL.out _ (by repeat (first | exact Below.refl _ _ | assumption | refine Below.drew ?_ | refine below_drewN ?_ _ | refine Below.alloc ?_ (by first | omega | (simp; omega) | simp) _ | refine Below.setCell ?_ (by first | omega | (simp; omega) | simp) _))).mono ?_
      rintro e w2 ⟨rfl, ho2⟩
      have hx2 := (hx.alloc (.cells #[.int .i64 k', .int .u64 a', .int .u64 b', .int .u64 c', .int .u64 d', .string t', .slice A' n' cp'] 38)).below ho2 (by have := hx.lt; simp; omega)
      have hb2 : Below w.heap.size w w2 := (hbl.alloc (by omega) (.cells #[.int .i64 k', .int .u64 a', .int .u64 b', .int .u64 c', .int .u64 d', .string t', .slice A' n' cp'] 38)).trans (ho2.mono (by simp; omega))
      clear hx hbl hbk ho2 HCALL y0 y1 y2 y3 y4 y5 y6
      go_wp2
      go_roundw
      case rel => exact ⟨j + 1, by omega, by go_num, hx2, hb2⟩
      case measure => simp [intOf]; omega
    · obtain rfl : j = ks.length := by omega
      have n0 := hx.cell 6
      clear hbk
      go_wp2
      go_loopw [28] (fun i wr => ∃ j : Nat, j ≤ 3 ∧ i = .int .i64 j ∧ Below w.heap.size w wr) (fun i _ => 3 - (intOf i).toNat)
      case atStart => exact ⟨0, by omega, rfl, hbl⟩
      case round =>
        obtain ⟨j, hj3, rfl, hbl2⟩ := hrel
        have hbk := hbx.below hbl2 hbw
        by_cases hj3 : j < 3
        · have hy := fun u v (hu : markE[u]? = some v) => mark_cell H7.out hbk HCS.out hj3 hu
          have y0 := hy 0 _ rfl
          have y1 := hy 1 _ rfl
          have y2 := hy 2 _ rfl
          have y3 := hy 3 _ rfl
          have y4 := hy 4 _ rfl
          have y5 := hy 5 _ rfl
          have y6 := hy 6 _ rfl
          rw [Nat.add_zero] at y0
          clear hy
          go_wp2
          go_roundw
          case rel => exact ⟨j + 1, by omega, by go_num, hbl2.alloc hbl2.size _⟩
          case measure => simp [intOf]; omega
        · obtain rfl : j = 3 := by omega
          go_wp2
          go_ret
          exact ⟨rfl, hbl2⟩
end Go.Proofs.Ytefechceoeeonaa

/- chaffkeep.markedGrammar. -/
namespace Go.Proofs.Ytefechceoeeonaa
open Go.RowKit Go.Maps

theorem marksR_get {u : Nat} {v : Value} (hu : markR[u]? = some v) : ∀ k j, j < k → (marksR k)[j * 8 + u]? = some v
  | 0, _, h => absurd h (by omega)
  | k + 1, j, h => by
    have h7 : u < 8 := getElem?_lt hu
    have hl := marksR_len k
    rw [marksR]
    by_cases hj : j < k
    · rw [List.getElem?_append_left (by omega)]
      exact marksR_get hu k j hj
    · rw [List.getElem?_append_right (by omega), show j * 8 + u - (marksR k).length = u by omega]
      exact hu
theorem markR_cell {W : World} {bk j u : Nat} {t : TypeId} {g : List Rl} {cs : Array Value} {rows : Nat → List Value} {v : Value} (h7 : ∀ i, i < g.length → (rows (0 + i)).length = 7) (hb : Blk W bk t cs) (hcs : cs.toList = ruF g rows 0 ++ marksR 3) (hj : j < 3) (hu : markR[u]? = some v) : W.cell? ⟨bk, g.length * 8 + j * 8 + u, none⟩ = some v := by
  have hl := ruF_len g rows 0 h7
  rw [hb.cell, ← Array.getElem?_toList, hcs, List.getElem?_append_right (by omega), hl, show g.length * 8 + j * 8 + u - g.length * 8 = j * 8 + u by omega]
  exact marksR_get hu 3 j hj

set_option maxRecDepth 100000 in
set_option maxHeartbeats 8000000 in
theorem markedG_any {lo hi bk : Nat} {g : List Rl} {rows : Nat → List Value} {L H : Nat → Nat} {w : World} (hG : RmG w lo hi g bk rows L H) (hhi : hi ≤ w.heap.size) : Calls Try.prog 14 #[.agg #[.slice (some ⟨bk, 0, none⟩) g.length (g.length + 3)]] w (fun r w' => r = .returned (.bool true) ∧ Below w.heap.size w w') := by
  have h7 := hG.len7
  obtain ⟨gs, hb, hcs⟩ := hG.blk
  have h2 := hG.hib
  have hn := hG.len
  have hC : ∀ (j : Nat), j < g.length →
      ∃ k' a' b' c' d' t' A' n' cp', rows j = [.int .i64 k', .int .u64 a', .int .u64 b', .int .u64 c', .int .u64 d', .string t', .slice A' n' cp'] ∧ ∀ W2, Below w.heap.size w W2 → Calls Try.prog 47 #[.agg #[.int .i64 k', .int .u64 a', .int .u64 b', .int .u64 c', .int .u64 d', .string t', .slice A' n' cp']] W2 (fun r w' => r = .returned (.bool true) ∧ Below W2.heap.size W2 w') := by
    intro j hj
    have hr := hG.body j _ (List.getElem?_eq_getElem hj)
    obtain ⟨k', a', b', c', d', t', A', n', cp', he⟩ := parts_of hr
    refine ⟨k', a', b', c', d', t', A', n', cp', he, fun W2 hW2 => ?_⟩
    have hl := hG.inn j hj
    have := marked_any _ (L j) (H j) (rows j) W2 (hr.keep fun q _ q2 => hW2.block q (by omega)) (by have := hW2.size; omega)
    rw [he] at this
    exact this
  have HC := Lib.hid hC
  have H7 := Lib.hid h7
  have HCS := Lib.hid hcs
  have hbw : bk < w.heap.size := hb.lt
  have hbx : Blk w bk 44 gs := hb
  clear hC h7 hcs hb hG
  go_enter Try.func14, Try.ntmps14
  go_wp2
  go_loopw [10] (fun i wr => ∃ j : Nat, j ≤ g.length ∧ i = .int .i64 j ∧ Blk wr w.heap.size 24 #[.slice (some (Addr.mk bk 0 none)) g.length (g.length + 3)] ∧ Below w.heap.size w wr) (fun i _ => g.length - (intOf i).toNat)
  case atStart => exact ⟨0, by omega, rfl, blk_at rfl, (by repeat (first | exact Below.refl _ _ | assumption | refine Below.drew ?_ | refine below_drewN ?_ _ | refine Below.alloc ?_ (by first | omega | (simp; omega) | simp) _ | refine Below.setCell ?_ (by first | omega | (simp; omega) | simp) _))⟩
  case round =>
    obtain ⟨j, hj, rfl, hx, hbl⟩ := hrel
    have hzw := hbl.size
    have hbk := hbx.below hbl hbw
    by_cases hjn : j < g.length
    · obtain ⟨k', a', b', c', d', t', A', n', cp', he, hcall⟩ := HC.out j hjn
      obtain ⟨y0, hy⟩ := row_name (j := j) H7.out hbk HCS.out (List.getElem?_eq_getElem hjn)
      rw [he] at hy
      have y1 := hy 0 _ rfl
      have y2 := hy 1 _ rfl
      have y3 := hy 2 _ rfl
      have y4 := hy 3 _ rfl
      have y5 := hy 4 _ rfl
      have y6 := hy 5 _ rfl
      have y7 := hy 6 _ rfl
      have hjl : (j : Int) < (g.length : Int) := by omega
      have HCALL := Lib.hid hcall
      clear hy he hcall
      simp only [Nat.zero_add, Nat.reduceAdd] at y1 y2 y3 y4 y5 y6 y7
      generalize (g[j]'hjn).1 = nm at y0
      go_wp2_with fail
      refine (HCALL.out _ (by repeat (first | exact Below.refl _ _ | assumption | refine Below.drew ?_ | refine below_drewN ?_ _ | refine Below.alloc ?_ (by first | omega | (simp; omega) | simp) _ | refine Below.setCell ?_ (by first | omega | (simp; omega) | simp) _))).mono ?_
      rintro e w2 ⟨rfl, ho2⟩
      have hx2 := (hx.alloc (.cells #[.string nm, .int .i64 k', .int .u64 a', .int .u64 b', .int .u64 c', .int .u64 d', .string t', .slice A' n' cp'] 44)).below ho2 (by have := hx.lt; simp; omega)
      have hb2 : Below w.heap.size w w2 := (hbl.alloc (by omega) (.cells #[.string nm, .int .i64 k', .int .u64 a', .int .u64 b', .int .u64 c', .int .u64 d', .string t', .slice A' n' cp'] 44)).trans (ho2.mono (by simp; omega))
      clear hx hbl hbk ho2 HCALL y0 y1 y2 y3 y4 y5 y6 y7
      go_wp2
      go_roundw
      case rel => exact ⟨j + 1, by omega, by go_num, hx2, hb2⟩
      case measure => simp [intOf]; omega
    · obtain rfl : j = g.length := by omega
      have n0 := hx.cell 0
      clear hbk
      go_wp2
      go_loopw [29] (fun i wr => ∃ j : Nat, j ≤ 3 ∧ i = .int .i64 j ∧ Below w.heap.size w wr) (fun i _ => 3 - (intOf i).toNat)
      case atStart => exact ⟨0, by omega, rfl, hbl⟩
      case round =>
        obtain ⟨j, hj3, rfl, hbl2⟩ := hrel
        have hbk := hbx.below hbl2 hbw
        by_cases hj3 : j < 3
        · have hy := fun u v (hu : markR[u]? = some v) => markR_cell H7.out hbk HCS.out hj3 hu
          have y0 := hy 0 _ rfl
          have y1 := hy 1 _ rfl
          have y2 := hy 2 _ rfl
          have y3 := hy 3 _ rfl
          have y4 := hy 4 _ rfl
          have y5 := hy 5 _ rfl
          have y6 := hy 6 _ rfl
          have y7 := hy 7 _ rfl
          rw [Nat.add_zero] at y0
          unfold markN at y0
          clear hy
          go_wp2
          go_roundw
          case rel => exact ⟨j + 1, by omega, by go_num, hbl2.alloc hbl2.size _⟩
          case measure => simp [intOf]; omega
        · obtain rfl : j = 3 := by omega
          go_wp2
          go_ret
          exact ⟨rfl, hbl2⟩
end Go.Proofs.Ytefechceoeeonaa

/- chaffkeep.copied and spoilExpr. -/
namespace Go.Proofs.Ytefechceoeeonaa
open Go.RowKit Go.Maps

set_option maxRecDepth 100000 in
set_option maxHeartbeats 8000000 in
theorem copied_any {g : List Rl} {A : Option Addr} {cp : Nat} {row : Nat → List Value} {w : World} (h : GrIs w w.heap.size g A cp row) (hs : SmG g) : Calls Try.prog 15 #[.agg #[.slice A g.length cp]] w (RmGQ g w) := by
  have HG := Lib.hid h
  have HQ : Hid (∀ W' bk rows L H, RmG W' w.heap.size W'.heap.size g bk rows L H → Below w.heap.size w W' → RmGQ g w (.returned (.agg #[.slice (some ⟨bk, 0, none⟩) g.length (g.length + 3)])) W') := fun W' bk rows L H h1 h2 => ⟨⟨bk, rows, L, H, rfl, h1⟩, h2⟩
  have HR : Hid (∀ W, Below w.heap.size w W → Calls Try.prog 11 #[.agg #[.slice A g.length cp]] W (RmGQ g W)) := fun W hW => roomyG_any (h.grow hW) hs
  generalize RmGQ g w = Q at HQ ⊢
  clear h hs
  go_enter Try.func15, Try.ntmps15
  go_upto_region 1 with fail
  have hb0 : Below w.heap.size w ((w.alloc (.cells #[.slice A g.length cp] 24)).alloc (.cells #[.slice none 0 0] 24)) := (by repeat (first | exact Below.refl _ _ | assumption | refine Below.drew ?_ | refine below_drewN ?_ _ | refine Below.alloc ?_ (by first | omega | (simp; omega) | simp) _ | refine Below.setCell ?_ (by first | omega | (simp; omega) | simp) _))
  have hx : Blk ((w.alloc (.cells #[.slice A g.length cp] 24)).alloc (.cells #[.slice none 0 0] 24)) w.heap.size 24 #[.slice A g.length cp] := (blk_at rfl).alloc _
  have hrs : Blk ((w.alloc (.cells #[.slice A g.length cp] 24)).alloc (.cells #[.slice none 0 0] 24)) (w.heap.size + 1) 24 #[.slice none 0 0] := blk_at (by simp)
  have hsz0 : ((w.alloc (.cells #[.slice A g.length cp] 24)).alloc (.cells #[.slice none 0 0] 24)).heap.size = w.heap.size + 1 + 1 := by simp
  generalize ((w.alloc (.cells #[.slice A g.length cp] 24)).alloc (.cells #[.slice none 0 0] 24)) = w0 at hb0 hx hrs hsz0 ⊢
  have hlt : w.heap.size + 1 < w0.heap.size := by omega
  clear hsz0
  have g0 := hx.cell 0
  go_upto_region 2 with (go_at_call 11; (refine (HR.out _ hb0).mono ?_); rintro e wn ⟨⟨bk, rows, L, H, rfl, hG⟩, hbn⟩; have HS := Lib.hid hrs; have hrs := HS.out.below hbn (by omega); have HB := Lib.hid hb0; have hb1 := HB.out.trans (hbn.mono (by omega)); clear HS HB hx g0)
  have o0 : (wn.alloc (.cells #[.slice (some ⟨bk, 0, none⟩) g.length (g.length + 3)] 24)).cell? ⟨wn.heap.size, 0, none⟩ = some (.slice (some ⟨bk, 0, none⟩) g.length (g.length + 3)) := (blk_at rfl : Blk (wn.alloc (.cells #[.slice (some ⟨bk, 0, none⟩) g.length (g.length + 3)] 24)) wn.heap.size 24 #[.slice (some ⟨bk, 0, none⟩) g.length (g.length + 3)]).cell 0
  have hs2 : (wn.alloc (.cells #[.slice (some ⟨bk, 0, none⟩) g.length (g.length + 3)] 24)).heap.size = wn.heap.size + 1 := by simp
  have hlt2 : w0.heap.size ≤ wn.heap.size := hbn.size
  have hK : RmG (wn.alloc (.cells #[.slice (some ⟨bk, 0, none⟩) g.length (g.length + 3)] 24)) w0.heap.size (wn.alloc (.cells #[.slice (some ⟨bk, 0, none⟩) g.length (g.length + 3)] 24)).heap.size g bk rows L H :=
    (hG.keep fun q _ q2 => Below.heap_alloc _ _ _ q2).mono (Nat.le_refl _) (by omega)
  have hrs2 := hrs.alloc (.cells #[.slice (some ⟨bk, 0, none⟩) g.length (g.length + 3)] 24)
  have hb2 : Below w.heap.size w (wn.alloc (.cells #[.slice (some ⟨bk, 0, none⟩) g.length (g.length + 3)] 24)) := hb1.alloc (by omega) _
  clear hrs hG hb1 hb0 hbn hs2
  generalize (wn.alloc (.cells #[.slice (some ⟨bk, 0, none⟩) g.length (g.length + 3)] 24)) = wf at o0 hK hrs2 hb2 ⊢
  have z0 : wf.cell? ⟨w.heap.size + 1, 0, none⟩ = some (.slice none 0 0) := hrs2.cell 0
  have f0 := hrs2.frozen 0
  have q0 : (wf.setCell ⟨w.heap.size + 1, 0, none⟩ (.slice (some ⟨bk, 0, none⟩) g.length (g.length + 3))).cell? ⟨w.heap.size + 1, 0, none⟩ = some (.slice (some ⟨bk, 0, none⟩) g.length (g.length + 3)) := (hrs2.set_ 0 _).cell 0
  have HK2 : Hid (RmG (wf.setCell ⟨w.heap.size + 1, 0, none⟩ (.slice (some ⟨bk, 0, none⟩) g.length (g.length + 3))) w.heap.size (wf.setCell ⟨w.heap.size + 1, 0, none⟩ (.slice (some ⟨bk, 0, none⟩) g.length (g.length + 3))).heap.size g bk rows L H) := by
    show RmG _ _ _ _ _ _ _ _
    rw [show (wf.setCell ⟨w.heap.size + 1, 0, none⟩ (.slice (some ⟨bk, 0, none⟩) g.length (g.length + 3))).heap.size = wf.heap.size by simp [World.setCell]]
    exact (hK.keep fun q q1 _ => Below.heap_setCell _ _ _ q (by show q ≠ w.heap.size + 1; omega)).mono (by omega) (Nat.le_refl _)
  have hb3 := hb2.setCell (p := ⟨w.heap.size + 1, 0, none⟩) (by show w.heap.size ≤ w.heap.size + 1; omega) (.slice (some ⟨bk, 0, none⟩) g.length (g.length + 3))
  clear hrs2 hK hb2
  go_wp2
  exact bodyPost_ret (v := .agg #[.slice (some ⟨bk, 0, none⟩) g.length (g.length + 3)]) (by simp [results, Try.results15, go_sem, q0]) rfl (HQ.out _ _ _ _ _ HK2.out hb3)
end Go.Proofs.Ytefechceoeeonaa
