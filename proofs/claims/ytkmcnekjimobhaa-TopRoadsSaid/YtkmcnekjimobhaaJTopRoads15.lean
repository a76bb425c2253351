/- expr.Copy: an expression, all of it new. kernel.count and kernel.of: a grammar with fewer kinds of expressions. -/
import Derived.Test.YtkmcnekjimobhaaJTopRoads14
import Derived.Deep.DeepCutAuto
import Derived.Test.YtkmcnekjimobhaaJTopRoads5
namespace Go.Proofs.Ytkmcnekjimobhaa
set_option maxHeartbeats 8000000
set_option maxRecDepth 100000
open Go.RowKit Go.Maps
structure CpI (f : Ex -> Ex) (k a b c d : Int) (t : ByteArray) (ks : List Ex) (A : Option Addr) (cp : Nat) (w : World) (V : Option Addr) (cv : Nat) (rows : Nat -> List Value) (j : Nat) (W : World) : Prop where
  bel : Below w.heap.size w W
  box : Blk W w.heap.size 37 #[.int .i64 k, .int .u64 a, .int .u64 b, .int .u64 c, .int .u64 d, .string t, .slice A ks.length cp]
  res : Blk W (w.heap.size + 1) 37 #[.int .i64 0, .int .u64 0, .int .u64 0, .int .u64 0, .int .u64 0, .string ⟨#[]⟩, .slice none 0 0]
  out : Blk W (w.heap.size + 1 + 1) 37 #[.int .i64 k, .int .u64 a, .int .u64 b, .int .u64 c, .int .u64 d, .string t, .slice V j cv]
  kids : Kids (w.heap.size + 3) W ((ks.take j).map f) V cv rows
section
variable {f : Ex -> Ex} {k a b c d : Int} {t : ByteArray} {ks : List Ex} {A : Option Addr} {cp : Nat} {w : World} {V : Option Addr} {cv : Nat} {rows : Nat -> List Value} {j : Nat} {W W' : World}
theorem CpI.below (h : CpI f k a b c d t ks A cp w V cv rows j W) (hb : Below W.heap.size W W') : CpI f k a b c d t ks A cp w V cv rows j W' :=
  ⟨h.bel.trans (hb.mono h.bel.size), h.box.below hb h.box.lt, h.res.below hb h.res.lt, h.out.below hb h.out.lt, h.kids.below hb⟩
theorem CpI.push {V' : Option Addr} {c' lo : Nat} {e : Ex} {r : List Value} (h : CpI f k a b c d t ks A cp w V cv rows j W) (he : ks[j]? = some e) (hlo : w.heap.size + 3 <= lo) (hold : ∀ q, (Value.slice V j cv).ownBlock = some q -> q < lo) (hE : ExF (fun b => lo <= b /\ b < W.heap.size) W.heap.size W (f e) r)
    (hown : W'.ownsRow (w.heap.size + 3) 37 7 (.slice V' (j + 1) c') (j + 1) (kdF rows j ++ r)) (hg : W.grownBy W' (Value.slice V j cv).ownBlock)
    (hat : (Value.slice V' (j + 1) c').ownBlock = (Value.slice V j cv).ownBlock \/ (Value.slice V' (j + 1) c').ownBlock = some W.heap.size) :
    CpI f k a b c d t ks A cp w V' c' (fun i => if i = j then r else rows i) (j + 1) (W'.setCell ⟨w.heap.size + 1 + 1, 6, none⟩ (.slice V' (j + 1) c')) := by
  have hjl := getElem?_lt he
  have hl : ((ks.take j).map f).length = j := by simp; omega
  have hne : ∀ b, b < w.heap.size + 3 -> some b ≠ (Value.slice V j cv).ownBlock := fun b hb e => by
    have := h.kids.own.lt b (by rw [hl]; exact e.symm)
    omega
  have hlow : Below w.heap.size W W' := ⟨hg.os, hg.tape, hg.output, hg.size, fun q hq => hg.block q (by have := h.bel.size; omega) (hne q (by omega))⟩
  have hk := h.kids.push (V' := V') (c' := c') (lo := lo) (e := f e) (r := r) hlo (by rw [hl]; exact hold) hE (by rw [hl]; exact hown) (by rw [hl]; exact hg) (by rw [hl]; exact hat)
  rw [hl] at hk
  refine ⟨(h.bel.trans hlow).setCell (by simp; omega) _, ((h.box.grown hg (hne _ (by omega))).far (by simp; omega) _), ((h.res.grown hg (hne _ (by omega))).far (by simp) _), ((h.out.grown hg (hne _ (by omega))).set_ 6 _), ?_⟩
  rw [take_succ_of he, List.map_append, List.map_cons, List.map_nil]
  exact hk.far (by omega) _ _
end
theorem copy_any (e : Ex) : K8 e -> ∀ (cs : List Value) (w : World), ExIs w w.heap.size e cs -> Calls Try.prog 67 #[.agg cs.toArray] w (MadeQ e w) := by
  refine Ex.ind (P := fun e => K8 e -> ∀ (cs : List Value) (w : World), ExIs w w.heap.size e cs -> Calls Try.prog 67 #[.agg cs.toArray] w (MadeQ e w)) ?_ e
  intro k a b c d t ks ih h8 cs w hE
  cases h8 with
  | mk _ _ _ _ _ _ _ hk8 h8k =>
  obtain ⟨htl, A, cp, rfl, hkc, hcm, hnil⟩ := hE.shape
  obtain ⟨i0, hi0, hz0, hz1, hz2⟩ := info_parts expr_info
  have hcall : ∀ (j : Nat) (k' a' b' c' d' : Int) (t' : ByteArray) (ks' : List Ex) (A' : Option Addr) (cp' : Nat) (W : World), Below w.heap.size w W -> ks[j]? = some (.mk k' a' b' c' d' t' ks') -> ExIs w w.heap.size (.mk k' a' b' c' d' t' ks') (exCells k' a' b' c' d' t' A' ks'.length cp') ->
      Calls Try.prog 67 #[.agg #[.int .i64 k', .int .u64 a', .int .u64 b', .int .u64 c', .int .u64 d', .string t', .slice A' ks'.length cp']] W (MadeQ (.mk k' a' b' c' d' t' ks') W) := fun j k' a' b' c' d' t' ks' A' cp' W hW hej hx =>
    ih _ (List.mem_of_getElem? hej) (h8k _ (List.mem_of_getElem? hej)) _ W (hx.grow hW)
  have HC := Lib.hid hcall
  have HE := Lib.hid hE
  have HQ : Hid (∀ W' cs', ExF (fun b => w.heap.size <= b /\ b < W'.heap.size) W'.heap.size W' (.mk k a b c d t ks) cs' -> Below w.heap.size w W' -> MadeQ (.mk k a b c d t ks) w (.returned (.agg cs'.toArray)) W') := fun W' cs' h1 h2 => ⟨⟨cs', rfl, h1⟩, h2⟩
  generalize MadeQ (.mk k a b c d t ks) w = Q at HQ ⊢
  clear ih h8k hcall hE
  unfold exCells
  unfold maxLen at hcm
  go_enter Try.func67, Try.ntmps67
  go_wp2
  go_loopw [11] (fun i wr => ∃ j : Nat, j <= ks.length /\ i = .int .i64 j /\ ∃ V cv rows, CpI (fun x => x) k a b c d t ks A cp w V cv rows j wr) (fun i _ => ks.length - (intOf i).toNat)
  case atStart =>
    refine ⟨0, by omega, rfl, none, 0, fun _ => [], bl, ((blk_at rfl).alloc _).alloc _, (blk_at (by simp)).alloc _, blk_at (by simp), Kids.nil _ _⟩
  case round =>
    obtain ⟨j, hj, rfl, V, cv, rows, hI⟩ := hrel
    have hbw := hI.bel
    have hzw := hbw.size
    by_cases hjn : j < ks.length
    · obtain ⟨ad, k', a', b', c', d', t', ks', A', cp', rfl, hab, hej, hx, hS⟩ := HE.out.kid hjn
      have hk := fun (q : Addr) (hq : q.block = (ad.add (j * 7)).block) => hbw.cell (p := q) (by rw [hq, add_block]; omega)
      have y0 := (hk _ rfl).trans hS.c0
      have y1 := (hk ⟨_, _, none⟩ rfl).trans hS.c1
      have y2 := (hk ⟨_, _, none⟩ rfl).trans hS.c2
      have y3 := (hk ⟨_, _, none⟩ rfl).trans hS.c3
      have y4 := (hk ⟨_, _, none⟩ rfl).trans hS.c4
      have y5 := (hk ⟨_, _, none⟩ rfl).trans hS.c5
      have y6 := (hk ⟨_, _, none⟩ rfl).trans hS.c6
      have had1 : ad.block < wr.heap.size := by omega
      have hjl : (j : Int) < (ks.length : Int) := by omega
      clear hk hS
      have hC0 : KdC (w.heap.size + 1 + 1) wr.heap.size #[.int .i64 k, .int .u64 a, .int .u64 b, .int .u64 c, .int .u64 d, .string t, .slice V j cv] #[.int .i64 k', .int .u64 a', .int .u64 b', .int .u64 c', .int .u64 d', .string t', .slice A' ks'.length cp'] (wr.alloc (.cells #[.int .i64 k', .int .u64 a', .int .u64 b', .int .u64 c', .int .u64 d', .string t', .slice A' ks'.length cp'] 37)) := ⟨hI.out.alloc _, blk_at rfl⟩
      have hI1 := hI.below ((Below.refl _ wr).alloc (Nat.le_refl _) (.cells #[.int .i64 k', .int .u64 a', .int .u64 b', .int .u64 c', .int .u64 d', .string t', .slice A' ks'.length cp'] 37))
      have hold : ∀ q, (Value.slice V j cv).ownBlock = some q -> q < wr.heap.size := fun q hq => hI.kids.old q (by simpa [Nat.min_eq_left hj] using hq)
      have hbase : w.heap.size + 3 <= wr.heap.size := by have := hI.out.lt; omega
      have HOLD := Lib.hid hold
      have HEJ := Lib.hid hej
      have HX := Lib.hid hx
      clear hej hx hold hI
      go_upto_region 6 with fail
      have hkne : some wr.heap.size ≠ (Value.slice V j cv).ownBlock := fun e => by have := HOLD.out _ e.symm; omega
      have hone : some (w.heap.size + 1 + 1) ≠ (Value.slice V j cv).ownBlock := fun e => by have h1 := hI1.kids.own.lt (w.heap.size + 1 + 1) (by simpa [Nat.min_eq_left hj] using e.symm); omega
      have hbase1 : w.heap.size + 3 <= (wr.alloc (.cells #[.int .i64 k', .int .u64 a', .int .u64 b', .int .u64 c', .int .u64 d', .string t', .slice A' ks'.length cp'] 37)).heap.size := by simp; omega
      have hold1 : ∀ q, (Value.slice V j cv).ownBlock = some q -> q < (wr.alloc (.cells #[.int .i64 k', .int .u64 a', .int .u64 b', .int .u64 c', .int .u64 d', .string t', .slice A' ks'.length cp'] 37)).heap.size := fun q hq => by have := HOLD.out q hq; simp; omega
      generalize (wr.alloc (.cells #[.int .i64 k', .int .u64 a', .int .u64 b', .int .u64 c', .int .u64 d', .string t', .slice A' ks'.length cp'] 37)) = w11 at hC0 hI1 hbase1 hold1 ⊢
      generalize wr.heap.size = kb at hC0 hkne ⊢
      clear y0 y1 y2 y3 y4 y5 y6 had1 hbw
      refine wp_region_l (KdC (w.heap.size + 1 + 1) kb #[.int .i64 k, .int .u64 a, .int .u64 b, .int .u64 c, .int .u64 d, .string t, .slice V j cv] #[.int .i64 k', .int .u64 a', .int .u64 b', .int .u64 c', .int .u64 d', .string t', .slice A' ks'.length cp']) (· == 7) (by kernel_rfl) ?_
      have hC := hC0.below (Below.refl _ _).drew
      have hI := hI1.below (Below.refl _ _).drew
      have hbd : (w11.drew).heap.size = w11.heap.size := rfl
      rw [<- hbd] at hbase1 hold1
      generalize w11.drew = wd at hC hI hbase1 hold1 ⊢
      clear hC0 hI1 hbd
      apply L.rd (i := 0) rfl (by kernel_rfl) hC rfl
      · intro W hW
        skip
        unfold readW
        go_simp
        first | rfl | exact ⟨rfl, rfl⟩
      first | simp only [Act.put, p1, p2, p3] | skip
      apply L.rd (i := 1) rfl (by kernel_rfl) hC rfl
      · intro W hW
        have n0 := hW.out.cell 6
        unfold readW
        go_simp
        first | rfl | exact ⟨rfl, rfl⟩
      first | simp only [Act.put, p1, p2, p3] | skip
      apply L.rd (i := 2) rfl (by kernel_rfl) hC rfl
      · intro W hW
        have r0 := hW.kid.cell 0; have r1 := hW.kid.cell 1; have r2 := hW.kid.cell 2; have r3 := hW.kid.cell 3; have r4 := hW.kid.cell 4; have r5 := hW.kid.cell 5; have r6 := hW.kid.cell 6
        unfold readW
        go_simp
        first | rfl | exact ⟨rfl, rfl⟩
      first | simp only [Act.put, p1, p2, p3] | skip
      apply L.one (i := 3) rfl (by kernel_rfl) rfl
      unfold stepT
      go_simp
      go_at_call 67
      refine (HC.out _ _ _ _ _ _ _ _ _ _ _ hI.bel HEJ.out HX.out).mono ?_
      rintro e wn ⟨⟨rc, rfl, hF⟩, hbn⟩
      have hC := hC.below hbn
      have hI := hI.below hbn
      have hbase2 := Nat.le_trans hbase1 hbn.size
      clear hbn
      have hrc := ex_one' hF.is
      obtain ⟨k1, a1, b1, c1, d1, t1, A1, n1, cp1, rfl⟩ := Ex.parts _ hF.is
      refine ⟨_, rfl, hC, ?_⟩
      first | simp only [Act.put, p1, p2, p3] | skip
      apply L.one (i := 4) rfl (by kernel_rfl) rfl
      unfold stepT
      go_simp
      have hF1 := (hF.keep (W' := wn.alloc (.cells #[.int .i64 k1, .int .u64 a1, .int .u64 b1, .int .u64 c1, .int .u64 d1, .string t1, .slice A1 n1 cp1] 37)) fun p hp => World.cell?_alloc_lt wn _ p hp.2).mono (S' := fun b => wd.heap.size <= b /\ b < (wn.alloc (.cells #[.int .i64 k1, .int .u64 a1, .int .u64 b1, .int .u64 c1, .int .u64 d1, .string t1, .slice A1 n1 cp1] 37)).heap.size) (fun b hb => ⟨hb.1, by simp; omega⟩) (hi' := (wn.alloc (.cells #[.int .i64 k1, .int .u64 a1, .int .u64 b1, .int .u64 c1, .int .u64 d1, .string t1, .slice A1 n1 cp1] 37)).heap.size) (by simp)
      have hkb : Blk (wn.alloc (.cells #[.int .i64 k1, .int .u64 a1, .int .u64 b1, .int .u64 c1, .int .u64 d1, .string t1, .slice A1 n1 cp1] 37)) wn.heap.size 37 #[.int .i64 k1, .int .u64 a1, .int .u64 b1, .int .u64 c1, .int .u64 d1, .string t1, .slice A1 n1 cp1] := blk_at rfl
      have hC := hC.below ((Below.refl _ _).alloc (Nat.le_refl _) (.cells #[.int .i64 k1, .int .u64 a1, .int .u64 b1, .int .u64 c1, .int .u64 d1, .string t1, .slice A1 n1 cp1] 37))
      have hI := hI.below ((Below.refl _ _).alloc (Nat.le_refl _) (.cells #[.int .i64 k1, .int .u64 a1, .int .u64 b1, .int .u64 c1, .int .u64 d1, .string t1, .slice A1 n1 cp1] 37))
      have hbase3 : w.heap.size + 3 <= (wn.alloc (.cells #[.int .i64 k1, .int .u64 a1, .int .u64 b1, .int .u64 c1, .int .u64 d1, .string t1, .slice A1 n1 cp1] 37)).heap.size := by simp; omega
      generalize (wn.alloc (.cells #[.int .i64 k1, .int .u64 a1, .int .u64 b1, .int .u64 c1, .int .u64 d1, .string t1, .slice A1 n1 cp1] 37)) = wk at hC hI hkb hF1 hbase3 ⊢
      generalize wn.heap.size = nb at hkb ⊢
      clear hF hbase2
      refine ⟨hC, ?_⟩
      apply L.one (i := 5) rfl (by kernel_rfl) rfl
      refine stepT_append_at (.tmp 16) (.tmp 19) 35 rfl (w.heap.size + 3) 37 i0 _ 7 80 Try.underlying35 hi0 hz0 hz1 hz2 rfl (by decide) (.slice V j cv) j (kdF rows j) (by simp [Act.eval]) (by simpa [Nat.min_eq_left hj] using hI.kids.own) ⟨nb, 0, none⟩ 1 1 [.int .i64 k1, .int .u64 a1, .int .u64 b1, .int .u64 c1, .int .u64 d1, .string t1, .slice A1 n1 cp1] (by simp [Act.eval]) rfl (fun i u hu => by rw [cell_add]; exact (hkb.cell i).trans (by rw [List.getElem?_toArray]; exact hu)) hrc (by unfold maxLen; omega) (by omega) hbase3 ?_
      intro v' w3 hown hgr hat
      obtain ⟨V3, c3, rfl⟩ := own_form hown
      have hI3 := hI.push HEJ.out hbase1 hold1 hF1 hown hgr hat
      have hC := hC.grown hgr hone hkne
      refine ⟨fun _ => hC, ?_⟩
      first | simp only [Act.put, p1, p2, p3] | skip
      apply L.rd (i := 6) rfl (by kernel_rfl) hC rfl
      · intro W hW
        skip
        unfold readW
        go_simp
        first | rfl | exact ⟨rfl, rfl⟩
      first | simp only [Act.put, p1, p2, p3] | skip
      have n0 := hC.out.cell 6
      have f0 := hC.out.frozen 6
      apply L.one (i := 7) rfl (by kernel_rfl) rfl
      unfold stepT
      go_simp
      refine L.done (by kernel_rfl) ?_
      have HI3 := Lib.hid hI3
      clear hI hI3 hC hown hgr hkb n0 f0 hat hF1 hold1 hbase1 hbase3 hkne hone
      go_wp2
      go_roundw
      case rel => exact ⟨j + 1, by omega, by go_num, _, _, _, HI3.out⟩
      case measure => simp [intOf]; omega
    · obtain rfl : j = ks.length := by omega
      have hK := hI.kids.node k a b c d t htl
      have e1 : ((ks.take ks.length).map fun x : Ex => x) = ks := by rw [List.take_length]; exact List.map_id' ks
      rw [e1] at hK
      have ho := hI.out
      have x0 : wr.cell? ⟨w.heap.size + 1 + 1, 0, none⟩ = some (.int .i64 k) := ho.cell 0; have x1 : wr.cell? ⟨w.heap.size + 1 + 1, 1, none⟩ = some (.int .u64 a) := ho.cell 1; have x2 : wr.cell? ⟨w.heap.size + 1 + 1, 2, none⟩ = some (.int .u64 b) := ho.cell 2; have x3 : wr.cell? ⟨w.heap.size + 1 + 1, 3, none⟩ = some (.int .u64 c) := ho.cell 3; have x4 : wr.cell? ⟨w.heap.size + 1 + 1, 4, none⟩ = some (.int .u64 d) := ho.cell 4; have x5 : wr.cell? ⟨w.heap.size + 1 + 1, 5, none⟩ = some (.string t) := ho.cell 5; have x6 : wr.cell? ⟨w.heap.size + 1 + 1, 6, none⟩ = some (.slice V ks.length cv) := ho.cell 6
      have hrs := hI.res
      have hwz := hI.out.lt
      have HK := Lib.hid hK
      clear hI hK ho
      obtain ⟨yz0, yz1, yz2, yz3, yz4, yz5, yz6, yf0, yf1, yf2, yf3, yf4, yf5, yf6, ye0, ye1, ye2, ye3, ye4, ye5, ye6⟩ := st7 hrs (.int .i64 k) (.int .u64 a) (.int .u64 b) (.int .u64 c) (.int .u64 d) (.string t) (.slice V ks.length cv)
      go_wp2
      exact bodyPost_ret (v := .agg #[.int .i64 k, .int .u64 a, .int .u64 b, .int .u64 c, .int .u64 d, .string t, .slice V ks.length cv]) (by simp [results, Try.results67, go_sem, ye0, ye1, ye2, ye3, ye4, ye5, ye6]) rfl (HQ.out _ _ (HK.out.res7 (by omega) (by omega) _ _ _ _ _ _ _) (below_set7 hbw (by omega) _ _ _ _ _ _ _))
theorem K8.of_rt {g : List Rl} {e : Ex} (h : Rt g e) : K8 e := by
  induction h with
  | mk k a b c d t ks hf _ _ ih => exact .mk k a b c d t ks (fit_len hf) ih
mutual
def cntE : Ex -> Nat
  | .mk k _ _ _ _ _ ks => min ((if k = 8 then 2 * cntS ks 0 + 1 else if k = 9 \/ k = 10 then cntS ks 0 + 1 else cntS ks 0) + 1) 401
def cntS : List Ex -> Nat -> Nat
  | [], n => n
  | e :: es, n => cntS es (min (n + cntE e) 400)
end
theorem cntE_le (e : Ex) : cntE e <= 401 := by
  cases e
  rw [cntE]
  exact Nat.min_le_right _ _
theorem cntS_le : ∀ (es : List Ex) (n : Nat), n <= 400 -> cntS es n <= 400
  | [], n, h => by rw [cntS]; exact h
  | e :: es, n, h => by rw [cntS]; exact cntS_le es _ (Nat.min_le_right _ _)
theorem kcount_any (e : Ex) : ∀ (cs : List Value) (w : World), ExIs w w.heap.size e cs -> Calls Try.prog 61 #[.agg cs.toArray] w (fun r w' => r = .returned (.int .i64 (cntE e)) /\ Below w.heap.size w w') := by
  refine Ex.ind (P := fun e => ∀ (cs : List Value) (w : World), ExIs w w.heap.size e cs -> Calls Try.prog 61 #[.agg cs.toArray] w (fun r w' => r = .returned (.int .i64 (cntE e)) /\ Below w.heap.size w w')) ?_ e
  intro k a b c d t ks ih cs w hE
  obtain ⟨htl, A, cp, rfl, hkc, hcm, hnil⟩ := hE.shape
  have hcall : ∀ (j : Nat) (k' a' b' c' d' : Int) (t' : ByteArray) (ks' : List Ex) (A' : Option Addr) (cp' : Nat) (W : World), Below w.heap.size w W -> ks[j]? = some (.mk k' a' b' c' d' t' ks') -> ExIs w w.heap.size (.mk k' a' b' c' d' t' ks') (exCells k' a' b' c' d' t' A' ks'.length cp') ->
      Calls Try.prog 61 #[.agg #[.int .i64 k', .int .u64 a', .int .u64 b', .int .u64 c', .int .u64 d', .string t', .slice A' ks'.length cp']] W (fun r w' => r = .returned (.int .i64 (cntE (.mk k' a' b' c' d' t' ks'))) /\ Below W.heap.size W w') := fun j k' a' b' c' d' t' ks' A' cp' W hW hej hx =>
    ih _ (List.mem_of_getElem? hej) _ W (hx.grow hW)
  have HC := Lib.hid hcall
  have HE := Lib.hid hE
  have HF : Hid (cntE (.mk k a b c d t ks) = min ((if k = 8 then 2 * cntS ks 0 + 1 else if k = 9 \/ k = 10 then cntS ks 0 + 1 else cntS ks 0) + 1) 401) := by show _ = _; rw [cntE]
  have hS4 := cntS_le ks 0 (by omega)
  clear ih hcall hE
  unfold exCells
  unfold maxLen at hcm
  generalize cntE (.mk k a b c d t ks) = z at HF ⊢
  obtain ⟨m, hm⟩ : ∃ m, cntS ks 0 = m := ⟨_, rfl⟩
  rw [hm] at HF hS4
  have HM : Hid (cntS (ks.drop 0) 0 = m) := hm
  clear hm
  go_enter Try.func61, Try.ntmps61
  go_wp2
  go_loopw [3, 9] (fun v i wr => ∃ j n : Nat, j <= ks.length /\ n <= 400 /\ i = .int .i64 j /\ v = .int .i64 n /\ Hid (cntS (ks.drop j) n = m) /\ Below w.heap.size w wr /\ Blk wr w.heap.size 37 #[.int .i64 k, .int .u64 a, .int .u64 b, .int .u64 c, .int .u64 d, .string t, .slice A ks.length cp]) (fun _ i _ => ks.length - (intOf i).toNat)
  case atStart => exact ⟨0, 0, by omega, by omega, rfl, rfl, HM, bl, blk_at rfl⟩
  case round =>
    obtain ⟨j, n, hj, hn4, rfl, rfl, HR, hbw, hbx⟩ := hrel
    have hzw := hbw.size
    by_cases hjn : j < ks.length
    · obtain ⟨ad, k', a', b', c', d', t', ks', A', cp', rfl, hab, hej, hx, hS⟩ := HE.out.kid hjn
      have hk := fun (q : Addr) (hq : q.block = (ad.add (j * 7)).block) => hbw.cell (p := q) (by rw [hq, add_block]; omega)
      have y0 := (hk _ rfl).trans hS.c0
      have y1 := (hk ⟨_, _, none⟩ rfl).trans hS.c1
      have y2 := (hk ⟨_, _, none⟩ rfl).trans hS.c2
      have y3 := (hk ⟨_, _, none⟩ rfl).trans hS.c3
      have y4 := (hk ⟨_, _, none⟩ rfl).trans hS.c4
      have y5 := (hk ⟨_, _, none⟩ rfl).trans hS.c5
      have y6 := (hk ⟨_, _, none⟩ rfl).trans hS.c6
      have hjl : (j : Int) < (ks.length : Int) := by omega
      have HN : Hid (cntS (ks.drop (j + 1)) (min (n + cntE (.mk k' a' b' c' d' t' ks')) 400) = m) := by
        have h1 := HR.out
        rw [drop_of hej, cntS] at h1
        exact h1
      have hle := cntE_le (.mk k' a' b' c' d' t' ks')
      have hc1 := fun W hW => HC.out j k' a' b' c' d' t' ks' A' cp' W hW hej hx
      generalize cntE (.mk k' a' b' c' d' t' ks') = y at HN hle hc1
      have HC1 := Lib.hid hc1
      have hbx1 := hbx.alloc (.cells #[.int .i64 k', .int .u64 a', .int .u64 b', .int .u64 c', .int .u64 d', .string t', .slice A' ks'.length cp'] 37)
      clear hk hS hej hx hc1
      go_wp2_with fail
      refine (HC1.out _ bl).mono ?_
      rintro e w1 ⟨rfl, hb1⟩
      have hbx2 := hbx1.below hb1 hbx1.lt
      have hw1 : Below w.heap.size w w1 := (hbw.alloc hzw _).trans (hb1.mono (by simp; omega))
      clear hb1
      go_wp2
      all_goals
        go_roundw
        case rel => exact ⟨j + 1, min (n + y) 400, by omega, by omega, by go_num, by congr 1; omega, HN.out, hw1, hbx2⟩
        case measure => simp [intOf]; omega
    · obtain rfl : j = ks.length := by omega
      have h1 := HR.out
      rw [List.drop_length, cntS] at h1
      subst h1
      have x0 : wr.cell? ⟨w.heap.size, 0, none⟩ = some (.int .i64 k) := hbx.cell 0
      by_cases k8 : k = 8
      · subst k8
        have HF2 : Hid (z = min (2 * n + 1 + 1) 401) := HF.out.trans (by rw [if_pos rfl])
        go_wp2
        all_goals
          go_ret
          exact ⟨ret_int (by rw [HF2.out]; omega), hbw⟩
      by_cases k9 : k = 9
      · subst k9
        have HF2 : Hid (z = min (n + 1 + 1) 401) := HF.out.trans (by rw [if_neg (by decide), if_pos (.inl rfl)])
        go_wp2
        all_goals
          go_ret
          exact ⟨ret_int (by rw [HF2.out]; omega), hbw⟩
      by_cases k10 : k = 10
      · subst k10
        have HF2 : Hid (z = min (n + 1 + 1) 401) := HF.out.trans (by rw [if_neg (by decide), if_pos (.inr rfl)])
        go_wp2
        all_goals
          go_ret
          exact ⟨ret_int (by rw [HF2.out]; omega), hbw⟩
      have HF2 : Hid (z = min (n + 1) 401) := HF.out.trans (by rw [if_neg k8, if_neg (by omega)])
      have b8 : (k == 8) = false := by rw [beq_eq_false_iff_ne]; exact k8
      have b9 : (k == 9) = false := by rw [beq_eq_false_iff_ne]; exact k9
      have b10 : (k == 10) = false := by rw [beq_eq_false_iff_ne]; exact k10
      clear k8 k9 k10
      go_wp2
      all_goals
        go_ret
        exact ⟨ret_int (by rw [HF2.out]; omega), hbw⟩
mutual
def kerE : Ex -> Ex
  | .mk k a b c d t ks =>
    if k = 8 then (match kerEs ks with
      | [] => .mk k a b c d t []
      | x :: _ => ofN 5 [x, ofN 7 [x]])
    else if k = 9 then (match kerEs ks with
      | [] => .mk k a b c d t []
      | x :: _ => ofN 6 [x, .mk 1 0 0 0 0 ⟨#[]⟩ []])
    else if k = 10 then ofN 11 [ofN 11 (kerEs ks)]
    else .mk k a b c d t (kerEs ks)
def kerEs : List Ex -> List Ex
  | [] => []
  | e :: es => kerE e :: kerEs es
end
theorem kerEs_map : ∀ ks : List Ex, kerEs ks = ks.map kerE
  | [] => by rw [kerEs, List.map_nil]
  | e :: es => by rw [kerEs, kerEs_map es, List.map_cons]
inductive Fit1 : Ex -> Prop
  | mk (k a b c d : Int) (t : ByteArray) (ks : List Ex) : ks.length <= 8 -> (k = 8 \/ k = 9 -> 0 < ks.length) -> (∀ e ∈ ks, Fit1 e) -> Fit1 (.mk k a b c d t ks)
theorem Fit1.k8 {e : Ex} (h : Fit1 e) : K8 (kerE e) := by
  induction h with
  | mk k a b c d t ks hl h1 _ ih =>
    have hk : ∀ x ∈ ks.map kerE, K8 x := fun x hx => by obtain ⟨e, he, rfl⟩ := List.mem_map.1 hx; exact ih e he
    rw [kerE, kerEs_map]
    split
    · split
      · exact .mk _ _ _ _ _ _ _ (by simp) (fun e he => by cases he)
      · rename_i x l hx
        have h0 := hk x (by rw [hx]; simp)
        exact .mk _ _ _ _ _ _ _ (by simp) (fun e he => by simp at he; rcases he with rfl | rfl; exact h0; exact .mk _ _ _ _ _ _ _ (by simp) (fun e he => by simp at he; rw [he]; exact h0))
    split
    · split
      · exact .mk _ _ _ _ _ _ _ (by simp) (fun e he => by cases he)
      · rename_i x l hx
        have h0 := hk x (by rw [hx]; simp)
        exact .mk _ _ _ _ _ _ _ (by simp) (fun e he => by simp at he; rcases he with rfl | rfl; exact h0; exact .mk _ _ _ _ _ _ _ (by simp) (fun e he => by cases he))
    split
    · exact .mk _ _ _ _ _ _ _ (by simp) (fun e he => by simp at he; rw [he]; exact .mk _ _ _ _ _ _ _ (by simpa using hl) hk)
    · exact .mk _ _ _ _ _ _ _ (by simpa using hl) hk
end Go.Proofs.Ytkmcnekjimobhaa
