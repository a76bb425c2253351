/- kernel.of. -/
import Derived.Test.YtkmcnekjimobhaaJTopRoads15
namespace Go.Proofs.Ytkmcnekjimobhaa
set_option maxHeartbeats 8000000
set_option maxRecDepth 100000
open Go.RowKit Go.Maps
theorem kof_any (e : Ex) : Fit1 e -> ∀ (cs : List Value) (w : World), ExIs w w.heap.size e cs -> Calls Try.prog 62 #[.agg cs.toArray] w (MadeQ (kerE e) w) := by
  refine Ex.ind (P := fun e => Fit1 e -> ∀ (cs : List Value) (w : World), ExIs w w.heap.size e cs -> Calls Try.prog 62 #[.agg cs.toArray] w (MadeQ (kerE e) w)) ?_ e
  intro k a b c d t ks ih h8 cs w hE
  cases h8 with
  | mk _ _ _ _ _ _ _ hk8 hk1 h8k =>
  obtain ⟨htl, A, cp, rfl, hkc, hcm, hnil⟩ := hE.shape
  obtain ⟨i0, hi0, hz0, hz1, hz2⟩ := info_parts expr_info
  have hcall : ∀ (j : Nat) (k' a' b' c' d' : Int) (t' : ByteArray) (ks' : List Ex) (A' : Option Addr) (cp' : Nat) (W : World), Below w.heap.size w W -> ks[j]? = some (.mk k' a' b' c' d' t' ks') -> ExIs w w.heap.size (.mk k' a' b' c' d' t' ks') (exCells k' a' b' c' d' t' A' ks'.length cp') ->
      Calls Try.prog 62 #[.agg #[.int .i64 k', .int .u64 a', .int .u64 b', .int .u64 c', .int .u64 d', .string t', .slice A' ks'.length cp']] W (MadeQ (kerE (.mk k' a' b' c' d' t' ks')) W) := fun j k' a' b' c' d' t' ks' A' cp' W hW hej hx =>
    ih _ (List.mem_of_getElem? hej) (h8k _ (List.mem_of_getElem? hej)) _ W (hx.grow hW)
  have hK8 : ∀ e ∈ ks, K8 (kerE e) := fun e he => (h8k e he).k8
  have HC := Lib.hid hcall
  have HE := Lib.hid hE
  have HK8 := Lib.hid hK8
  have HF : Hid (kerE (.mk k a b c d t ks) = (if k = 8 then (match ks.map kerE with
      | [] => .mk k a b c d t []
      | x :: _ => ofN 5 [x, ofN 7 [x]])
    else if k = 9 then (match ks.map kerE with
      | [] => .mk k a b c d t []
      | x :: _ => ofN 6 [x, .mk 1 0 0 0 0 ⟨#[]⟩ []])
    else if k = 10 then ofN 11 [ofN 11 (ks.map kerE)]
    else .mk k a b c d t (ks.map kerE))) := by show _ = _; rw [kerE, kerEs_map]; rfl
  generalize kerE (.mk k a b c d t ks) = z at HF ⊢
  have HQ : Hid (∀ W' cs', ExF (fun b => w.heap.size <= b /\ b < W'.heap.size) W'.heap.size W' z cs' -> Below w.heap.size w W' -> MadeQ z w (.returned (.agg cs'.toArray)) W') := fun W' cs' h1 h2 => ⟨⟨cs', rfl, h1⟩, h2⟩
  generalize MadeQ z w = Q at HQ ⊢
  clear ih h8k hcall hE hK8
  unfold exCells
  unfold maxLen at hcm
  go_enter Try.func62, Try.ntmps62
  go_wp2
  go_loopw [17] (fun i wr => ∃ j : Nat, j <= ks.length /\ i = .int .i64 j /\ ∃ V cv rows, CpI kerE k a b c d t ks A cp w V cv rows j wr) (fun i _ => ks.length - (intOf i).toNat)
  case atStart =>
    refine ⟨0, by omega, rfl, none, 0, fun _ => [], bl, ((blk_at rfl).alloc _).alloc _, (blk_at (by simp)).alloc _, blk_at (by simp), Kids.nil _ _⟩
  case round =>
    obtain ⟨j, hj, rfl, V, cv, rows, hI⟩ := hrel
    have hbw := hI.bel
    have hzw := hbw.size
    by_cases hjn : j < ks.length
    · obtain ⟨ad, k', a', b', c', d', t', ks', A', cp', rfl, hab, hej, hx, hS⟩ := HE.out.kid hjn
      have hk := fun (q : Addr) (hq : q.block = (ad.add (j * 7)).block) => hbw.cell (p := q) (by rw [hq, add_block]; omega)
      have y0 := (hk _ rfl).trans hS.c0
      have y1 := (hk ⟨_, _, none⟩ rfl).trans hS.c1
      have y2 := (hk ⟨_, _, none⟩ rfl).trans hS.c2
      have y3 := (hk ⟨_, _, none⟩ rfl).trans hS.c3
      have y4 := (hk ⟨_, _, none⟩ rfl).trans hS.c4
      have y5 := (hk ⟨_, _, none⟩ rfl).trans hS.c5
      have y6 := (hk ⟨_, _, none⟩ rfl).trans hS.c6
      have had1 : ad.block < wr.heap.size := by omega
      have hjl : (j : Int) < (ks.length : Int) := by omega
      clear hk hS
      have hC0 : KdC (w.heap.size + 1 + 1) wr.heap.size #[.int .i64 k, .int .u64 a, .int .u64 b, .int .u64 c, .int .u64 d, .string t, .slice V j cv] #[.int .i64 k', .int .u64 a', .int .u64 b', .int .u64 c', .int .u64 d', .string t', .slice A' ks'.length cp'] (wr.alloc (.cells #[.int .i64 k', .int .u64 a', .int .u64 b', .int .u64 c', .int .u64 d', .string t', .slice A' ks'.length cp'] 37)) := ⟨hI.out.alloc _, blk_at rfl⟩
      have hI1 := hI.below ((Below.refl _ wr).alloc (Nat.le_refl _) (.cells #[.int .i64 k', .int .u64 a', .int .u64 b', .int .u64 c', .int .u64 d', .string t', .slice A' ks'.length cp'] 37))
      have hold : ∀ q, (Value.slice V j cv).ownBlock = some q -> q < wr.heap.size := fun q hq => hI.kids.old q (by simpa [Nat.min_eq_left hj] using hq)
      have hbase : w.heap.size + 3 <= wr.heap.size := by have := hI.out.lt; omega
      have HOLD := Lib.hid hold
      have HEJ := Lib.hid hej
      have HX := Lib.hid hx
      clear hej hx hold hI
      go_upto_region 5 with fail
      have hkne : some wr.heap.size ≠ (Value.slice V j cv).ownBlock := fun e => by have := HOLD.out _ e.symm; omega
      have hone : some (w.heap.size + 1 + 1) ≠ (Value.slice V j cv).ownBlock := fun e => by have h1 := hI1.kids.own.lt (w.heap.size + 1 + 1) (by simpa [Nat.min_eq_left hj] using e.symm); omega
      have hbase1 : w.heap.size + 3 <= (wr.alloc (.cells #[.int .i64 k', .int .u64 a', .int .u64 b', .int .u64 c', .int .u64 d', .string t', .slice A' ks'.length cp'] 37)).heap.size := by simp; omega
      have hold1 : ∀ q, (Value.slice V j cv).ownBlock = some q -> q < (wr.alloc (.cells #[.int .i64 k', .int .u64 a', .int .u64 b', .int .u64 c', .int .u64 d', .string t', .slice A' ks'.length cp'] 37)).heap.size := fun q hq => by have := HOLD.out q hq; simp; omega
      generalize (wr.alloc (.cells #[.int .i64 k', .int .u64 a', .int .u64 b', .int .u64 c', .int .u64 d', .string t', .slice A' ks'.length cp'] 37)) = w11 at hC0 hI1 hbase1 hold1 ⊢
      generalize wr.heap.size = kb at hC0 hkne ⊢
      clear y0 y1 y2 y3 y4 y5 y6 had1 hbw
      refine wp_region_l (KdC (w.heap.size + 1 + 1) kb #[.int .i64 k, .int .u64 a, .int .u64 b, .int .u64 c, .int .u64 d, .string t, .slice V j cv] #[.int .i64 k', .int .u64 a', .int .u64 b', .int .u64 c', .int .u64 d', .string t', .slice A' ks'.length cp']) (· == 7) (by kernel_rfl) ?_
      have hC := hC0.below (Below.refl _ _).drew
      have hI := hI1.below (Below.refl _ _).drew
      have hbd : (w11.drew).heap.size = w11.heap.size := rfl
      rw [<- hbd] at hbase1 hold1
      generalize w11.drew = wd at hC hI hbase1 hold1 ⊢
      clear hC0 hI1 hbd
      apply L.rd (i := 0) rfl (by kernel_rfl) hC rfl
      · intro W hW
        skip
        unfold readW
        go_simp
        first | rfl | exact ⟨rfl, rfl⟩
      first | simp only [Act.put, p1, p2, p3] | skip
      apply L.rd (i := 1) rfl (by kernel_rfl) hC rfl
      · intro W hW
        have n0 := hW.out.cell 6
        unfold readW
        go_simp
        first | rfl | exact ⟨rfl, rfl⟩
      first | simp only [Act.put, p1, p2, p3] | skip
      apply L.rd (i := 2) rfl (by kernel_rfl) hC rfl
      · intro W hW
        have r0 := hW.kid.cell 0; have r1 := hW.kid.cell 1; have r2 := hW.kid.cell 2; have r3 := hW.kid.cell 3; have r4 := hW.kid.cell 4; have r5 := hW.kid.cell 5; have r6 := hW.kid.cell 6
        unfold readW
        go_simp
        first | rfl | exact ⟨rfl, rfl⟩
      first | simp only [Act.put, p1, p2, p3] | skip
      apply L.one (i := 3) rfl (by kernel_rfl) rfl
      unfold stepT
      go_simp
      go_at_call 62
      refine (HC.out _ _ _ _ _ _ _ _ _ _ _ hI.bel HEJ.out HX.out).mono ?_
      rintro e wn ⟨⟨rc, rfl, hF⟩, hbn⟩
      have hC := hC.below hbn
      have hI := hI.below hbn
      have hbase2 := Nat.le_trans hbase1 hbn.size
      clear hbn
      have hrc := ex_one' hF.is
      obtain ⟨k1, a1, b1, c1, d1, t1, A1, n1, cp1, rfl⟩ := Ex.parts _ hF.is
      refine ⟨_, rfl, hC, ?_⟩
      first | simp only [Act.put, p1, p2, p3] | skip
      apply L.one (i := 4) rfl (by kernel_rfl) rfl
      unfold stepT
      go_simp
      have hF1 := (hF.keep (W' := wn.alloc (.cells #[.int .i64 k1, .int .u64 a1, .int .u64 b1, .int .u64 c1, .int .u64 d1, .string t1, .slice A1 n1 cp1] 37)) fun p hp => World.cell?_alloc_lt wn _ p hp.2).mono (S' := fun b => wd.heap.size <= b /\ b < (wn.alloc (.cells #[.int .i64 k1, .int .u64 a1, .int .u64 b1, .int .u64 c1, .int .u64 d1, .string t1, .slice A1 n1 cp1] 37)).heap.size) (fun b hb => ⟨hb.1, by simp; omega⟩) (hi' := (wn.alloc (.cells #[.int .i64 k1, .int .u64 a1, .int .u64 b1, .int .u64 c1, .int .u64 d1, .string t1, .slice A1 n1 cp1] 37)).heap.size) (by simp)
      have hkb : Blk (wn.alloc (.cells #[.int .i64 k1, .int .u64 a1, .int .u64 b1, .int .u64 c1, .int .u64 d1, .string t1, .slice A1 n1 cp1] 37)) wn.heap.size 37 #[.int .i64 k1, .int .u64 a1, .int .u64 b1, .int .u64 c1, .int .u64 d1, .string t1, .slice A1 n1 cp1] := blk_at rfl
      have hC := hC.below ((Below.refl _ _).alloc (Nat.le_refl _) (.cells #[.int .i64 k1, .int .u64 a1, .int .u64 b1, .int .u64 c1, .int .u64 d1, .string t1, .slice A1 n1 cp1] 37))
      have hI := hI.below ((Below.refl _ _).alloc (Nat.le_refl _) (.cells #[.int .i64 k1, .int .u64 a1, .int .u64 b1, .int .u64 c1, .int .u64 d1, .string t1, .slice A1 n1 cp1] 37))
      have hbase3 : w.heap.size + 3 <= (wn.alloc (.cells #[.int .i64 k1, .int .u64 a1, .int .u64 b1, .int .u64 c1, .int .u64 d1, .string t1, .slice A1 n1 cp1] 37)).heap.size := by simp; omega
      generalize (wn.alloc (.cells #[.int .i64 k1, .int .u64 a1, .int .u64 b1, .int .u64 c1, .int .u64 d1, .string t1, .slice A1 n1 cp1] 37)) = wk at hC hI hkb hF1 hbase3 ⊢
      generalize wn.heap.size = nb at hkb ⊢
      clear hF hbase2
      refine ⟨hC, ?_⟩
      apply L.one (i := 5) rfl (by kernel_rfl) rfl
      refine stepT_append_at (.tmp 22) (.tmp 25) 35 rfl (w.heap.size + 3) 37 i0 _ 7 80 Try.underlying35 hi0 hz0 hz1 hz2 rfl (by decide) (.slice V j cv) j (kdF rows j) (by simp [Act.eval]) (by simpa [Nat.min_eq_left hj] using hI.kids.own) ⟨nb, 0, none⟩ 1 1 [.int .i64 k1, .int .u64 a1, .int .u64 b1, .int .u64 c1, .int .u64 d1, .string t1, .slice A1 n1 cp1] (by simp [Act.eval]) rfl (fun i u hu => by rw [cell_add]; exact (hkb.cell i).trans (by rw [List.getElem?_toArray]; exact hu)) hrc (by unfold maxLen; omega) (by omega) hbase3 ?_
      intro v' w3 hown hgr hat
      obtain ⟨V3, c3, rfl⟩ := own_form hown
      have hI3 := hI.push HEJ.out hbase1 hold1 hF1 hown hgr hat
      have hC := hC.grown hgr hone hkne
      refine ⟨fun _ => hC, ?_⟩
      first | simp only [Act.put, p1, p2, p3] | skip
      apply L.rd (i := 6) rfl (by kernel_rfl) hC rfl
      · intro W hW
        skip
        unfold readW
        go_simp
        first | rfl | exact ⟨rfl, rfl⟩
      first | simp only [Act.put, p1, p2, p3] | skip
      have n0 := hC.out.cell 6
      have f0 := hC.out.frozen 6
      apply L.one (i := 7) rfl (by kernel_rfl) rfl
      unfold stepT
      go_simp
      refine L.done (by kernel_rfl) ?_
      have HI3 := Lib.hid hI3
      clear hI hI3 hC hown hgr hkb n0 f0 hat hF1 hold1 hbase1 hbase3 hkne hone
      go_wp2
      go_roundw
      case rel => exact ⟨j + 1, by omega, by go_num, _, _, _, HI3.out⟩
      case measure => simp [intOf]; omega
    · obtain rfl : j = ks.length := by omega
      have ho := hI.out
      have x0 : wr.cell? ⟨w.heap.size + 1 + 1, 0, none⟩ = some (.int .i64 k) := ho.cell 0; have x1 : wr.cell? ⟨w.heap.size + 1 + 1, 1, none⟩ = some (.int .u64 a) := ho.cell 1; have x2 : wr.cell? ⟨w.heap.size + 1 + 1, 2, none⟩ = some (.int .u64 b) := ho.cell 2; have x3 : wr.cell? ⟨w.heap.size + 1 + 1, 3, none⟩ = some (.int .u64 c) := ho.cell 3; have x4 : wr.cell? ⟨w.heap.size + 1 + 1, 4, none⟩ = some (.int .u64 d) := ho.cell 4; have x5 : wr.cell? ⟨w.heap.size + 1 + 1, 5, none⟩ = some (.string t) := ho.cell 5; have x6 : wr.cell? ⟨w.heap.size + 1 + 1, 6, none⟩ = some (.slice V ks.length cv) := ho.cell 6
      have xk : wr.cell? ⟨w.heap.size, 0, none⟩ = some (.int .i64 k) := hI.box.cell 0
      have hrs := hI.res
      have hwz := hI.out.lt
      have hKD := hI.kids
      rw [List.take_length] at hKD
      have HKD := Lib.hid hKD
      have hll : (ks.map kerE).length = ks.length := by simp
      clear hI ho hKD
      by_cases k8 : k = 8
      · subst k8
        have hpos : 0 < ks.length := hk1 (.inl rfl)
        obtain ⟨e0, he0⟩ : ∃ e0, ks[0]? = some e0 := ⟨_, List.getElem?_eq_getElem hpos⟩
        have hx0 : (ks.map kerE)[0]? = some (kerE e0) := by rw [List.getElem?_map, he0]; rfl
        have hz : z = ofN 5 [kerE e0, ofN 7 [kerE e0]] := HF.out.trans (by
          rw [if_pos rfl]
          generalize ks.map kerE = l at hx0
          cases l with
          | nil => simp at hx0
          | cons x l => simp at hx0; subst hx0; rfl)
        have h8 := HK8.out _ (List.mem_of_getElem? he0)
        have hF0 := (HKD.out.kid 0 _ hx0).mono (S' := fun b => w.heap.size + 3 <= b /\ b < wr.heap.size) (fun b hb => ⟨hb.1, hb.2.1⟩) (Nat.le_refl _)
        obtain ⟨_, _, _, hlies, hcells⟩ := HKD.out.shape
        obtain ⟨ad, rfl, hab, -, -⟩ := hlies (by omega)
        have hc0 := hcells 0 _ ad hx0 rfl
        obtain ⟨k1, a1, b1, c1, d1, t1, A1, n1, cp1, hr⟩ := Ex.parts _ hF0.is
        rw [hr] at hF0 hc0
        have y0 : wr.cell? ad = some (.int .i64 k1) := hc0 0 _ rfl
        have y1 : wr.cell? ⟨ad.block, ad.off + 1, none⟩ = some (.int .u64 a1) := hc0 1 _ rfl
        have y2 : wr.cell? ⟨ad.block, ad.off + 2, none⟩ = some (.int .u64 b1) := hc0 2 _ rfl
        have y3 : wr.cell? ⟨ad.block, ad.off + 3, none⟩ = some (.int .u64 c1) := hc0 3 _ rfl
        have y4 : wr.cell? ⟨ad.block, ad.off + 4, none⟩ = some (.int .u64 d1) := hc0 4 _ rfl
        have y5 : wr.cell? ⟨ad.block, ad.off + 5, none⟩ = some (.string t1) := hc0 5 _ rfl
        have y6 : wr.cell? ⟨ad.block, ad.off + 6, none⟩ = some (.slice A1 n1 cp1) := hc0 6 _ rfl
        have hpi : (0 : Int) < (ks.length : Int) := by omega
        have HCP := copy_any (kerE e0) h8 _ wr hF0.is
        have HCP := Lib.hid HCP
        clear hcells hc0 hlies hr HKD HF he0 hx0 h8
        go_wp2_with fail
        refine HCP.out.mono ?_
        rintro e w1 ⟨⟨cc, rfl, hFc⟩, hb1⟩
        have hoc := ex_one' hFc.is
        obtain ⟨k2, a2, b2, c2, d2, t2, A2, n2, cp2, rfl⟩ := Ex.parts _ hFc.is
        have hf0 := (hF0.keep (W' := w1) fun p hp => hb1.cell hp.2).mono (S' := fun b => w.heap.size + 3 <= b /\ b < w1.heap.size) (fun b hb => ⟨hb.1, Nat.lt_of_lt_of_le hb.2 hb1.size⟩) hb1.size
        have hfc := hFc.mono (S' := fun b => w.heap.size + 3 <= b /\ b < w1.heap.size) (fun b hb => ⟨by omega, hb.2⟩) (Nat.le_refl _)
        have hrs1 := hrs.below hb1 hrs.lt
        have o6 := (hb1.cell (p := ⟨w.heap.size + 1 + 1, 6, none⟩) hwz).trans x6
        replace y0 := (hb1.cell (p := ad) hab).trans y0
        replace y1 := (hb1.cell (p := ⟨ad.block, ad.off + 1, none⟩) hab).trans y1
        replace y2 := (hb1.cell (p := ⟨ad.block, ad.off + 2, none⟩) hab).trans y2
        replace y3 := (hb1.cell (p := ⟨ad.block, ad.off + 3, none⟩) hab).trans y3
        replace y4 := (hb1.cell (p := ⟨ad.block, ad.off + 4, none⟩) hab).trans y4
        replace y5 := (hb1.cell (p := ⟨ad.block, ad.off + 5, none⟩) hab).trans y5
        replace y6 := (hb1.cell (p := ⟨ad.block, ad.off + 6, none⟩) hab).trans y6
        replace hbw := hbw.trans (hb1.mono hzw)
        have hw1 := hb1.size
        have hab1 : ad.block < w1.heap.size := by omega
        have HFC := Lib.hid hfc
        have HF0 := Lib.hid hf0
        have HRS := Lib.hid hrs1
        clear HCP hb1 hFc hF0 hfc hf0 hrs hrs1 x0 x1 x2 x3 x4 x5 x6 hab xk
        go_upto_region 10 with fail
        have hb2 : Below w1.heap.size w1 ((w1.alloc (.cells #[.int .i64 k2, .int .u64 a2, .int .u64 b2, .int .u64 c2, .int .u64 d2, .string t2, .slice A2 n2 cp2] 37)).alloc (.cells #[.int .i64 7, .int .u64 0, .int .u64 0, .int .u64 0, .int .u64 0, .string ⟨#[]⟩, .slice (some ⟨w1.heap.size, 0, none⟩) 1 1] 37)) := bl
        have c1' : Blk ((w1.alloc (.cells #[.int .i64 k2, .int .u64 a2, .int .u64 b2, .int .u64 c2, .int .u64 d2, .string t2, .slice A2 n2 cp2] 37)).alloc (.cells #[.int .i64 7, .int .u64 0, .int .u64 0, .int .u64 0, .int .u64 0, .string ⟨#[]⟩, .slice (some ⟨w1.heap.size, 0, none⟩) 1 1] 37)) w1.heap.size 37 #[.int .i64 k2, .int .u64 a2, .int .u64 b2, .int .u64 c2, .int .u64 d2, .string t2, .slice A2 n2 cp2] := (blk_at rfl).alloc _
        have c2' : Blk ((w1.alloc (.cells #[.int .i64 k2, .int .u64 a2, .int .u64 b2, .int .u64 c2, .int .u64 d2, .string t2, .slice A2 n2 cp2] 37)).alloc (.cells #[.int .i64 7, .int .u64 0, .int .u64 0, .int .u64 0, .int .u64 0, .string ⟨#[]⟩, .slice (some ⟨w1.heap.size, 0, none⟩) 1 1] 37)) (w1.heap.size + 1) 37 #[.int .i64 7, .int .u64 0, .int .u64 0, .int .u64 0, .int .u64 0, .string ⟨#[]⟩, .slice (some ⟨w1.heap.size, 0, none⟩) 1 1] := blk_at (by simp)
        generalize ((w1.alloc (.cells #[.int .i64 k2, .int .u64 a2, .int .u64 b2, .int .u64 c2, .int .u64 d2, .string t2, .slice A2 n2 cp2] 37)).alloc (.cells #[.int .i64 7, .int .u64 0, .int .u64 0, .int .u64 0, .int .u64 0, .string ⟨#[]⟩, .slice (some ⟨w1.heap.size, 0, none⟩) 1 1] 37)) = wB at hb2 c1' c2' ⊢
        have hzB := hb2.size
        have hlB := c2'.lt
        replace o6 := (hb2.cell (p := ⟨w.heap.size + 1 + 1, 6, none⟩) (by simp; omega)).trans o6
        replace y0 := (hb2.cell (p := ad) hab1).trans y0
        replace y1 := (hb2.cell (p := ⟨ad.block, ad.off + 1, none⟩) hab1).trans y1
        replace y2 := (hb2.cell (p := ⟨ad.block, ad.off + 2, none⟩) hab1).trans y2
        replace y3 := (hb2.cell (p := ⟨ad.block, ad.off + 3, none⟩) hab1).trans y3
        replace y4 := (hb2.cell (p := ⟨ad.block, ad.off + 4, none⟩) hab1).trans y4
        replace y5 := (hb2.cell (p := ⟨ad.block, ad.off + 5, none⟩) hab1).trans y5
        replace y6 := (hb2.cell (p := ⟨ad.block, ad.off + 6, none⟩) hab1).trans y6
        have hbwB := hbw.trans (hb2.mono (by omega))
        have hfB := (HF0.out.keep (W' := wB) fun p hp => hb2.cell hp.2).mono (S' := fun b => w.heap.size + 3 <= b /\ b < wB.heap.size) (fun b hb => ⟨hb.1, by omega⟩) hzB
        have hcB := (HFC.out.keep (W' := wB) fun p hp => hb2.cell hp.2).mono (S' := fun b => w.heap.size + 3 <= b /\ b < wB.heap.size) (fun b hb => ⟨hb.1, by omega⟩) hzB
        have hoB : ExF (fun b => w.heap.size + 3 <= b /\ b < wB.heap.size) wB.heap.size wB (ofN 7 [kerE e0]) (exCells 7 0 0 0 0 ⟨#[]⟩ (some ⟨w1.heap.size, 0, none⟩) 1 1) := ExF.one hcB c1' rfl ⟨by omega, by omega⟩ (by omega) 7
        have hrsB := HRS.out.below hb2 HRS.out.lt
        have HFB := Lib.hid hfB
        have HOB := Lib.hid hoB
        clear hfB hcB hoB hb2 c1' HF0 HFC HRS hbw
        refine wp_region_l (Below wB.heap.size wB) (· == 7) (by kernel_rfl) ?_
        have hC : Below wB.heap.size wB wB.drew := (Below.refl _ _).drew
        have hdr : wB.drew.heap.size = wB.heap.size := rfl
        generalize wB.drew = wd at hC hdr ⊢
        have habB : ad.block < wB.heap.size := by omega
        apply L.rd (i := 0) rfl (by kernel_rfl) hC rfl
        · intro W hW
          skip
          unfold readW
          go_simp
          first | rfl | exact ⟨rfl, rfl⟩
        first | simp only [Act.put, p1, p2, p3] | skip
        apply L.rd (i := 1) rfl (by kernel_rfl) hC rfl
        · intro W hW
          have n0 := (hW.cell (p := ⟨w.heap.size + 1 + 1, 6, none⟩) (by simp; omega)).trans o6
          unfold readW
          go_simp
          first | rfl | exact ⟨rfl, rfl⟩
        first | simp only [Act.put, p1, p2, p3] | skip
        apply L.rd (i := 2) rfl (by kernel_rfl) hC rfl
        · intro W hW
          skip
          unfold readW
          go_simp
          first | rfl | exact ⟨rfl, rfl⟩
        first | simp only [Act.put, p1, p2, p3] | skip
        apply L.rd (i := 3) rfl (by kernel_rfl) hC rfl
        · intro W hW
          have r0 := (hW.cell (p := ad) habB).trans y0; have r1 := (hW.cell (p := ⟨ad.block, ad.off + 1, none⟩) habB).trans y1; have r2 := (hW.cell (p := ⟨ad.block, ad.off + 2, none⟩) habB).trans y2; have r3 := (hW.cell (p := ⟨ad.block, ad.off + 3, none⟩) habB).trans y3; have r4 := (hW.cell (p := ⟨ad.block, ad.off + 4, none⟩) habB).trans y4; have r5 := (hW.cell (p := ⟨ad.block, ad.off + 5, none⟩) habB).trans y5; have r6 := (hW.cell (p := ⟨ad.block, ad.off + 6, none⟩) habB).trans y6
          unfold readW
          go_simp
          first | rfl | exact ⟨rfl, rfl⟩
        first | simp only [Act.put, p1, p2, p3] | skip
        apply L.rd (i := 4) rfl (by kernel_rfl) hC rfl
        · intro W hW
          have r0 := (c2'.below hW hlB).cell 0; have r1 := (c2'.below hW hlB).cell 1; have r2 := (c2'.below hW hlB).cell 2; have r3 := (c2'.below hW hlB).cell 3; have r4 := (c2'.below hW hlB).cell 4; have r5 := (c2'.below hW hlB).cell 5; have r6 := (c2'.below hW hlB).cell 6
          unfold readW
          go_simp
          first | rfl | exact ⟨rfl, rfl⟩
        first | simp only [Act.put, p1, p2, p3] | skip
        apply L.one (i := 5) rfl (by kernel_rfl) rfl
        unfold stepT
        go_simp
        have hbk : Below wB.heap.size wB (wd.alloc (.cells #[.int .i64 k1, .int .u64 a1, .int .u64 b1, .int .u64 c1, .int .u64 d1, .string t1, .slice A1 n1 cp1, .int .i64 7, .int .u64 0, .int .u64 0, .int .u64 0, .int .u64 0, .string ⟨#[]⟩, .slice (some ⟨w1.heap.size, 0, none⟩) 1 1] 37)) := hC.alloc (by omega) _
        have hkb : Blk (wd.alloc (.cells #[.int .i64 k1, .int .u64 a1, .int .u64 b1, .int .u64 c1, .int .u64 d1, .string t1, .slice A1 n1 cp1, .int .i64 7, .int .u64 0, .int .u64 0, .int .u64 0, .int .u64 0, .string ⟨#[]⟩, .slice (some ⟨w1.heap.size, 0, none⟩) 1 1] 37)) wB.heap.size 37 #[.int .i64 k1, .int .u64 a1, .int .u64 b1, .int .u64 c1, .int .u64 d1, .string t1, .slice A1 n1 cp1, .int .i64 7, .int .u64 0, .int .u64 0, .int .u64 0, .int .u64 0, .string ⟨#[]⟩, .slice (some ⟨w1.heap.size, 0, none⟩) 1 1] := blk_at hdr.symm
        have hsk : (wd.alloc (.cells #[.int .i64 k1, .int .u64 a1, .int .u64 b1, .int .u64 c1, .int .u64 d1, .string t1, .slice A1 n1 cp1, .int .i64 7, .int .u64 0, .int .u64 0, .int .u64 0, .int .u64 0, .string ⟨#[]⟩, .slice (some ⟨w1.heap.size, 0, none⟩) 1 1] 37)).heap.size = wB.heap.size + 1 := by simp; omega
        generalize (wd.alloc (.cells #[.int .i64 k1, .int .u64 a1, .int .u64 b1, .int .u64 c1, .int .u64 d1, .string t1, .slice A1 n1 cp1, .int .i64 7, .int .u64 0, .int .u64 0, .int .u64 0, .int .u64 0, .string ⟨#[]⟩, .slice (some ⟨w1.heap.size, 0, none⟩) 1 1] 37)) = wk at hbk hkb hsk ⊢
        have hrsk := hrsB.below hbk hrsB.lt
        have hbwk := hbwB.trans (hbk.mono (by omega))
        have hfk := (HFB.out.keep (W' := wk) fun p hp => hbk.cell hp.2).mono (S' := fun b => w.heap.size + 3 <= b /\ b < wk.heap.size) (fun b hb => ⟨hb.1, by omega⟩) (hi' := wk.heap.size) (by omega)
        have hok := (HOB.out.keep (W' := wk) fun p hp => hbk.cell hp.2).mono (S' := fun b => w.heap.size + 3 <= b /\ b < wk.heap.size) (fun b hb => ⟨hb.1, by omega⟩) (hi' := wk.heap.size) (by omega)
        have hK := ExF.two hfk hok hkb rfl ⟨by omega, by omega⟩ (by omega) 5
        rw [<- hz] at hK
        have HK := Lib.hid hK
        refine ⟨hbk, ?_⟩
        have hC := hbk
        clear hfk hok hkb hK HFB HOB hz c2' o6 y0 y1 y2 y3 y4 y5 y6 hrsB
        first | simp only [Act.put, p1, p2, p3] | skip
        apply L.rd (i := 6) rfl (by kernel_rfl) hC rfl
        · intro W hW
          skip
          unfold readW
          go_simp
          first | rfl | exact ⟨rfl, rfl⟩
        first | simp only [Act.put, p1, p2, p3] | skip
        generalize (some (⟨wB.heap.size, 0, none⟩ : Addr)) = V2 at HK ⊢
        obtain ⟨yz0, yz1, yz2, yz3, yz4, yz5, yz6, yf0, yf1, yf2, yf3, yf4, yf5, yf6, ye0, ye1, ye2, ye3, ye4, ye5, ye6⟩ := st7 hrsk (.int .i64 5) (.int .u64 0) (.int .u64 0) (.int .u64 0) (.int .u64 0) (.string ⟨#[]⟩) (.slice V2 2 2)
        apply L.one (i := 7) rfl (by kernel_rfl) rfl
        unfold stepT
        go_simp
        refine L.done (by kernel_rfl) ?_
        go_wp2
        exact bodyPost_ret (v := .agg #[.int .i64 5, .int .u64 0, .int .u64 0, .int .u64 0, .int .u64 0, .string ⟨#[]⟩, .slice V2 2 2]) (by simp [results, Try.results62, go_sem, ye0, ye1, ye2, ye3, ye4, ye5, ye6]) rfl (HQ.out _ _ (HK.out.res7 (lo := w.heap.size + 3) (B := w.heap.size) (k := w.heap.size + 1) (by omega) (by omega) _ _ _ _ _ _ _) (below_set7 (k := w.heap.size + 1) hbwk (by omega) _ _ _ _ _ _ _))
      by_cases k9 : k = 9
      · subst k9
        have hpos : 0 < ks.length := hk1 (.inr rfl)
        obtain ⟨e0, he0⟩ : ∃ e0, ks[0]? = some e0 := ⟨_, List.getElem?_eq_getElem hpos⟩
        have hx0 : (ks.map kerE)[0]? = some (kerE e0) := by rw [List.getElem?_map, he0]; rfl
        have hz : z = ofN 6 [kerE e0, .mk 1 0 0 0 0 ⟨#[]⟩ []] := HF.out.trans (by
          rw [if_neg (by decide), if_pos rfl]
          generalize ks.map kerE = l at hx0
          cases l with
          | nil => simp at hx0
          | cons x l => simp at hx0; subst hx0; rfl)
        have hF0 := (HKD.out.kid 0 _ hx0).mono (S' := fun b => w.heap.size + 3 <= b /\ b < wr.heap.size) (fun b hb => ⟨hb.1, hb.2.1⟩) (Nat.le_refl _)
        obtain ⟨_, _, _, hlies, hcells⟩ := HKD.out.shape
        obtain ⟨ad, rfl, hab, -, -⟩ := hlies (by omega)
        have hc0 := hcells 0 _ ad hx0 rfl
        obtain ⟨k1, a1, b1, c1, d1, t1, A1, n1, cp1, hr⟩ := Ex.parts _ hF0.is
        rw [hr] at hF0 hc0
        have y0 : wr.cell? ad = some (.int .i64 k1) := hc0 0 _ rfl
        have y1 : wr.cell? ⟨ad.block, ad.off + 1, none⟩ = some (.int .u64 a1) := hc0 1 _ rfl
        have y2 : wr.cell? ⟨ad.block, ad.off + 2, none⟩ = some (.int .u64 b1) := hc0 2 _ rfl
        have y3 : wr.cell? ⟨ad.block, ad.off + 3, none⟩ = some (.int .u64 c1) := hc0 3 _ rfl
        have y4 : wr.cell? ⟨ad.block, ad.off + 4, none⟩ = some (.int .u64 d1) := hc0 4 _ rfl
        have y5 : wr.cell? ⟨ad.block, ad.off + 5, none⟩ = some (.string t1) := hc0 5 _ rfl
        have y6 : wr.cell? ⟨ad.block, ad.off + 6, none⟩ = some (.slice A1 n1 cp1) := hc0 6 _ rfl
        have hpi : (0 : Int) < (ks.length : Int) := by omega
        have hbk : Below wr.heap.size wr (wr.alloc (.cells #[.int .i64 k1, .int .u64 a1, .int .u64 b1, .int .u64 c1, .int .u64 d1, .string t1, .slice A1 n1 cp1, .int .i64 1, .int .u64 0, .int .u64 0, .int .u64 0, .int .u64 0, .string ⟨#[]⟩, .slice none 0 0] 37)) := (Below.refl _ _).alloc (Nat.le_refl _) _
        have hkb : Blk (wr.alloc (.cells #[.int .i64 k1, .int .u64 a1, .int .u64 b1, .int .u64 c1, .int .u64 d1, .string t1, .slice A1 n1 cp1, .int .i64 1, .int .u64 0, .int .u64 0, .int .u64 0, .int .u64 0, .string ⟨#[]⟩, .slice none 0 0] 37)) wr.heap.size 37 #[.int .i64 k1, .int .u64 a1, .int .u64 b1, .int .u64 c1, .int .u64 d1, .string t1, .slice A1 n1 cp1, .int .i64 1, .int .u64 0, .int .u64 0, .int .u64 0, .int .u64 0, .string ⟨#[]⟩, .slice none 0 0] := blk_at rfl
        have hrsk := hrs.alloc (.cells #[.int .i64 k1, .int .u64 a1, .int .u64 b1, .int .u64 c1, .int .u64 d1, .string t1, .slice A1 n1 cp1, .int .i64 1, .int .u64 0, .int .u64 0, .int .u64 0, .int .u64 0, .string ⟨#[]⟩, .slice none 0 0] 37)
        have hbwk : Below w.heap.size w (wr.alloc (.cells #[.int .i64 k1, .int .u64 a1, .int .u64 b1, .int .u64 c1, .int .u64 d1, .string t1, .slice A1 n1 cp1, .int .i64 1, .int .u64 0, .int .u64 0, .int .u64 0, .int .u64 0, .string ⟨#[]⟩, .slice none 0 0] 37)) := hbw.alloc hzw _
        have hsk : (wr.alloc (.cells #[.int .i64 k1, .int .u64 a1, .int .u64 b1, .int .u64 c1, .int .u64 d1, .string t1, .slice A1 n1 cp1, .int .i64 1, .int .u64 0, .int .u64 0, .int .u64 0, .int .u64 0, .string ⟨#[]⟩, .slice none 0 0] 37)).heap.size = wr.heap.size + 1 := by simp
        have hK : ExF (fun b => w.heap.size + 3 <= b /\ b < (wr.alloc (.cells #[.int .i64 k1, .int .u64 a1, .int .u64 b1, .int .u64 c1, .int .u64 d1, .string t1, .slice A1 n1 cp1, .int .i64 1, .int .u64 0, .int .u64 0, .int .u64 0, .int .u64 0, .string ⟨#[]⟩, .slice none 0 0] 37)).heap.size) (wr.alloc (.cells #[.int .i64 k1, .int .u64 a1, .int .u64 b1, .int .u64 c1, .int .u64 d1, .string t1, .slice A1 n1 cp1, .int .i64 1, .int .u64 0, .int .u64 0, .int .u64 0, .int .u64 0, .string ⟨#[]⟩, .slice none 0 0] 37)).heap.size (wr.alloc (.cells #[.int .i64 k1, .int .u64 a1, .int .u64 b1, .int .u64 c1, .int .u64 d1, .string t1, .slice A1 n1 cp1, .int .i64 1, .int .u64 0, .int .u64 0, .int .u64 0, .int .u64 0, .string ⟨#[]⟩, .slice none 0 0] 37)) z (exCells 6 0 0 0 0 ⟨#[]⟩ (some ⟨wr.heap.size, 0, none⟩) 2 2) := by
          rw [hz]
          exact ExF.two ((hF0.keep fun p hp => hbk.cell hp.2).mono (fun b hb => ⟨hb.1, by omega⟩) (by omega)) (ExF.leaf _ _ _ 1 0 0 0 0 ⟨#[]⟩ (by decide)) hkb rfl ⟨by omega, by omega⟩ (by omega) 6
        have HK := Lib.hid hK
        clear hK hcells hc0 hlies hr HKD HF he0 hx0 hkb hF0 hz
        obtain ⟨yz0, yz1, yz2, yz3, yz4, yz5, yz6, yf0, yf1, yf2, yf3, yf4, yf5, yf6, ye0, ye1, ye2, ye3, ye4, ye5, ye6⟩ := st7 hrsk (.int .i64 6) (.int .u64 0) (.int .u64 0) (.int .u64 0) (.int .u64 0) (.string ⟨#[]⟩) (.slice (some ⟨wr.heap.size, 0, none⟩) 2 2)
        go_wp2
        exact bodyPost_ret (v := .agg #[.int .i64 6, .int .u64 0, .int .u64 0, .int .u64 0, .int .u64 0, .string ⟨#[]⟩, .slice (some ⟨wr.heap.size, 0, none⟩) 2 2]) (by simp [results, Try.results62, go_sem, ye0, ye1, ye2, ye3, ye4, ye5, ye6]) rfl (HQ.out _ _ (HK.out.res7 (lo := w.heap.size + 3) (B := w.heap.size) (k := w.heap.size + 1) (by omega) (by omega) _ _ _ _ _ _ _) (below_set7 (k := w.heap.size + 1) hbwk (by omega) _ _ _ _ _ _ _))
      by_cases k10 : k = 10
      · subst k10
        have hz : z = ofN 11 [ofN 11 (ks.map kerE)] := HF.out.trans (by rw [if_neg (by decide), if_neg (by decide), if_pos rfl])
        have hF0 := HKD.out.node 11 0 0 0 0 ⟨#[]⟩ (by decide)
        rw [hll] at hF0
        have hbk : Below wr.heap.size wr (wr.alloc (.cells #[.int .i64 11, .int .u64 0, .int .u64 0, .int .u64 0, .int .u64 0, .string ⟨#[]⟩, .slice V ks.length cv] 37)) := (Below.refl _ _).alloc (Nat.le_refl _) _
        have hkb : Blk (wr.alloc (.cells #[.int .i64 11, .int .u64 0, .int .u64 0, .int .u64 0, .int .u64 0, .string ⟨#[]⟩, .slice V ks.length cv] 37)) wr.heap.size 37 #[.int .i64 11, .int .u64 0, .int .u64 0, .int .u64 0, .int .u64 0, .string ⟨#[]⟩, .slice V ks.length cv] := blk_at rfl
        have hrsk := hrs.alloc (.cells #[.int .i64 11, .int .u64 0, .int .u64 0, .int .u64 0, .int .u64 0, .string ⟨#[]⟩, .slice V ks.length cv] 37)
        have hbwk : Below w.heap.size w (wr.alloc (.cells #[.int .i64 11, .int .u64 0, .int .u64 0, .int .u64 0, .int .u64 0, .string ⟨#[]⟩, .slice V ks.length cv] 37)) := hbw.alloc hzw _
        have hsk : (wr.alloc (.cells #[.int .i64 11, .int .u64 0, .int .u64 0, .int .u64 0, .int .u64 0, .string ⟨#[]⟩, .slice V ks.length cv] 37)).heap.size = wr.heap.size + 1 := by simp
        have hK : ExF (fun b => w.heap.size + 3 <= b /\ b < (wr.alloc (.cells #[.int .i64 11, .int .u64 0, .int .u64 0, .int .u64 0, .int .u64 0, .string ⟨#[]⟩, .slice V ks.length cv] 37)).heap.size) (wr.alloc (.cells #[.int .i64 11, .int .u64 0, .int .u64 0, .int .u64 0, .int .u64 0, .string ⟨#[]⟩, .slice V ks.length cv] 37)).heap.size (wr.alloc (.cells #[.int .i64 11, .int .u64 0, .int .u64 0, .int .u64 0, .int .u64 0, .string ⟨#[]⟩, .slice V ks.length cv] 37)) z (exCells 11 0 0 0 0 ⟨#[]⟩ (some ⟨wr.heap.size, 0, none⟩) 1 1) := by
          rw [hz]
          exact ExF.one ((hF0.keep fun p hp => hbk.cell hp.2).mono (fun b hb => ⟨hb.1, by omega⟩) (by omega)) hkb rfl ⟨by omega, by omega⟩ (by omega) 11
        have HK := Lib.hid hK
        clear hK HKD HF hkb hF0 hz
        obtain ⟨yz0, yz1, yz2, yz3, yz4, yz5, yz6, yf0, yf1, yf2, yf3, yf4, yf5, yf6, ye0, ye1, ye2, ye3, ye4, ye5, ye6⟩ := st7 hrsk (.int .i64 11) (.int .u64 0) (.int .u64 0) (.int .u64 0) (.int .u64 0) (.string ⟨#[]⟩) (.slice (some ⟨wr.heap.size, 0, none⟩) 1 1)
        go_wp2
        exact bodyPost_ret (v := .agg #[.int .i64 11, .int .u64 0, .int .u64 0, .int .u64 0, .int .u64 0, .string ⟨#[]⟩, .slice (some ⟨wr.heap.size, 0, none⟩) 1 1]) (by simp [results, Try.results62, go_sem, ye0, ye1, ye2, ye3, ye4, ye5, ye6]) rfl (HQ.out _ _ (HK.out.res7 (lo := w.heap.size + 3) (B := w.heap.size) (k := w.heap.size + 1) (by omega) (by omega) _ _ _ _ _ _ _) (below_set7 (k := w.heap.size + 1) hbwk (by omega) _ _ _ _ _ _ _))
      have hK := HKD.out.node k a b c d t htl
      rw [hll, <- show z = .mk k a b c d t (ks.map kerE) from HF.out.trans (by rw [if_neg k8, if_neg k9, if_neg k10])] at hK
      have b8 : (k == 8) = false := by rw [beq_eq_false_iff_ne]; exact k8
      have b9 : (k == 9) = false := by rw [beq_eq_false_iff_ne]; exact k9
      have b10 : (k == 10) = false := by rw [beq_eq_false_iff_ne]; exact k10
      have HK := Lib.hid hK
      clear hK HF
      obtain ⟨yz0, yz1, yz2, yz3, yz4, yz5, yz6, yf0, yf1, yf2, yf3, yf4, yf5, yf6, ye0, ye1, ye2, ye3, ye4, ye5, ye6⟩ := st7 hrs (.int .i64 k) (.int .u64 a) (.int .u64 b) (.int .u64 c) (.int .u64 d) (.string t) (.slice V ks.length cv)
      go_wp2
      exact bodyPost_ret (v := .agg #[.int .i64 k, .int .u64 a, .int .u64 b, .int .u64 c, .int .u64 d, .string t, .slice V ks.length cv]) (by simp [results, Try.results62, go_sem, ye0, ye1, ye2, ye3, ye4, ye5, ye6]) rfl (HQ.out _ _ (HK.out.res7 (by omega) (by omega) _ _ _ _ _ _ _) (below_set7 hbw (by omega) _ _ _ _ _ _ _))
end Go.Proofs.Ytkmcnekjimobhaa
