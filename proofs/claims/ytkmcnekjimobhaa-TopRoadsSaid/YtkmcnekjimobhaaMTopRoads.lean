/- simp.Simp. The walk of the law TopRoads. The law TopRoads: for every input it returns true, and each argument reads afterwards as it read before. The frame is written by a program of ours after the guide's own shell; the walk is in the text it imports. Conditions: none but the statement's own. -/
import Derived.Test.YtkmcnekjimobhaaJTopRoads32
import Derived.Test.YtkmcnekjimobhaaJTopRoads26
import Derived.Test.YtkmcnekjimobhaaJTopRoads17
import Derived.Test.YtkmcnekjimobhaaRows
import Derived.Test.YtkmcnekjimobhaaJTopRoads3
namespace Go.Proofs.Ytkmcnekjimobhaa
set_option maxHeartbeats 8000000
set_option maxRecDepth 100000
open Go.RowKit Go.Maps
def idE (x : Ex) : Ex := x
def simF (G : List Rl) (e : Ex) : Ex := (simE G (factsG G) e).1
theorem simG_map (G : List Rl) : (simG G).1 = G.map fun r => (r.1, simF G r.2) := rfl
def SimpQ (g : List Rl) (w : World) (e : Ending) (w' : World) : Prop := Below w.heap.size w w' /\
  (((wellG g).2 ≠ 0 /\ e = .returned (.tuple #[.agg #[.slice none 0 0], .int .i64 (wellG g).2])) \/
   ((wellG g).2 = 0 /\ ∃ V c rows, e = .returned (.tuple #[.agg #[.slice V g.length c], .int .i64 0]) /\ GrF (fun b => w.heap.size <= b /\ b < w'.heap.size) w'.heap.size w' (simpG g) V c rows))
theorem k8_rt {g : List Rl} {e : Ex} (h : Rt g e) : K8 e := by
  induction h with
  | mk k a b c d t ks hf _ _ ih => exact .mk k a b c d t ks (fit_len hf) ih
theorem Rus.but {base : Nat} {W W' : World} {g : List Rl} {V : Option Addr} {c : Nat} {rows : Nat -> List Value} (h : Rus base W g V c rows) {mb : Nat} (hm : mb < base) (hg : W.grownBy W' (some mb)) : Rus base W' g V c rows :=
  ⟨own_far h.own hg hm, h.small, fun i e he => ((h.body i e he).keep (W' := W') fun p hp => World.cell?_of_block (hg.block p.block hp.2.1 (by intro e; injection e with e; have := hp.1; omega))).mono (fun _ hb' => ⟨hb'.1, Nat.lt_of_lt_of_le hb'.2.1 hg.size, hb'.2.2⟩) hg.size⟩
structure SgI (f : Ex -> Ex) (G : List Rl) (mb xb : Nat) (mc : Bool -> Array Value) (w : World) (V : Option Addr) (c : Nat) (rows : Nat -> List Value) (j : Nat) (m : Bool) (W : World) : Prop where
  bel : Below w.heap.size w W
  mlo : w.heap.size <= mb
  xlo : mb < xb
  mak : Blk W mb 138 (mc m)
  out : Blk W xb 24 #[.slice V j c]
  rus : Rus (xb + 1) W ((G.take j).map fun r => (r.1, f r.2)) V c rows
section
variable {f : Ex -> Ex} {G : List Rl} {mb xb : Nat} {mc : Bool -> Array Value} {w : World} {V : Option Addr} {c : Nat} {rows : Nat -> List Value} {j : Nat} {m m' : Bool} {W W' : World}
theorem SgI.below (h : SgI f G mb xb mc w V c rows j m W) (hb : Below W.heap.size W W') : SgI f G mb xb mc w V c rows j m W' :=
  ⟨h.bel.trans (hb.mono h.bel.size), h.mlo, h.xlo, h.mak.below hb h.mak.lt, h.out.below hb h.out.lt, h.rus.below hb⟩
theorem SgI.call (h : SgI f G mb xb mc w V c rows j m W) (hg : W.grownBy W' (some mb)) (hm : Blk W' mb 138 (mc m')) : SgI f G mb xb mc w V c rows j m' W' :=
  ⟨h.bel.grown hg h.bel.size fun k hk => by injection hk with hk; have := h.mlo; omega, h.mlo, h.xlo, hm, h.out.grown hg (fun e => by injection e with e; have := h.xlo; omega), h.rus.but (by have := h.xlo; omega) hg⟩
theorem SgI.push {V' : Option Addr} {c' lo : Nat} {r : Rl} {rc : List Value} (h : SgI f G mb xb mc w V c rows j m W) (he : G[j]? = some r) (hlo : xb + 1 <= lo) (hold : ∀ q, (Value.slice V j c).ownBlock = some q -> q < lo) (hn : r.1.size <= maxLen) (hE : ExF (fun b => lo <= b /\ b < W.heap.size) W.heap.size W (f r.2) rc)
    (hown : W'.ownsRow (xb + 1) 96 8 (.slice V' (j + 1) c') (j + 1) (ruF ((G.take j).map fun r => (r.1, f r.2)) rows 0 ++ (.string r.1 :: rc))) (hg : W.grownBy W' (Value.slice V j c).ownBlock)
    (hat : (Value.slice V' (j + 1) c').ownBlock = (Value.slice V j c).ownBlock \/ (Value.slice V' (j + 1) c').ownBlock = some W.heap.size) :
    SgI f G mb xb mc w V' c' (fun i => if i = j then rc else rows i) (j + 1) m (W'.setCell ⟨xb, 0, none⟩ (.slice V' (j + 1) c')) := by
  have hjl := getElem?_lt he
  have hm1 := h.mlo
  have hx1 := h.xlo
  have hl : ((G.take j).map fun r => (r.1, f r.2)).length = j := by simp; omega
  have hne : ∀ b, b < xb + 1 -> some b ≠ (Value.slice V j c).ownBlock := fun b hb e => by
    have := h.rus.own.lt b (by rw [hl]; exact e.symm)
    omega
  have hlow : Below w.heap.size W W' := ⟨hg.os, hg.tape, hg.output, hg.size, fun q hq => hg.block q (by have := h.bel.size; omega) (hne q (by omega))⟩
  have hk := h.rus.push (V' := V') (c' := c') (lo := lo) (r := (r.1, f r.2)) hlo (by rw [hl]; exact hold) hn hE (by rw [hl]; exact hown) (by rw [hl]; exact hg) (by rw [hl]; exact hat)
  rw [hl] at hk
  refine ⟨(h.bel.trans hlow).setCell (by simp; omega) _, hm1, hx1, ((h.mak.grown hg (hne _ (by omega))).far (by simp; omega) _), ((h.out.grown hg (hne _ (by omega))).set_ 0 _), ?_⟩
  rw [take_succ_of he, List.map_append, List.map_cons, List.map_nil]
  exact hk.far (by omega) _ _
end
theorem simp_any {g : List Rl} {A : Option Addr} {cp : Nat} {row : Nat -> List Value} {w : World} (h : GrIs w w.heap.size g A cp row) : Calls Try.prog 33 #[.agg #[.slice A g.length cp]] w (SimpQ g w) := by
  have hwl := fun W (hW : Below w.heap.size w W) => well_any (h.grow hW)
  unfold WellQ at hwl
  have HWL := Lib.hid hwl
  have hQ1 : (wellG g).2 ≠ 0 -> ∀ w', Below w.heap.size w w' -> SimpQ g w (.returned (.tuple #[.agg #[.slice none 0 0], .int .i64 (wellG g).2])) w' := fun h0 w' hb => ⟨hb, .inl ⟨h0, rfl⟩⟩
  have hQ2 : (wellG g).2 = 0 -> ∀ V c rows w', Below w.heap.size w w' -> GrF (fun b => w.heap.size <= b /\ b < w'.heap.size) w'.heap.size w' (simpG g) V c rows -> SimpQ g w (.returned (.tuple #[.agg #[.slice V g.length c], .int .i64 0])) w' := fun h0 V c rows w' hb hG => ⟨hb, .inr ⟨h0, V, c, rows, rfl, hG⟩⟩
  by_cases h0 : (wellG g).2 = 0
  case neg =>
    have HQ := Lib.hid (hQ1 h0)
    have n0 : ((wellG g).2 != 0) = true := by rw [bne_iff_ne]; exact h0
    generalize SimpQ g w = Q at HQ ⊢
    generalize (wellG g).2 = x at HWL HQ n0
    generalize (wellG g).1 = y at HWL
    clear hQ1 hQ2 hwl h h0
    go_enter Try.func33, Try.ntmps33
    go_wp2_with fail
    refine (HWL.out _ bl).mono ?_
    rintro e w1 ⟨rfl, hb1⟩
    have hrs1 : Blk w1 (w.heap.size + 1) 24 #[.slice none 0 0] := (blk_at (by simp)).below hb1 (by simp)
    have hw1 : Below w.heap.size w w1 := Below.trans bl (hb1.mono (by first | omega | (simp; omega) | simp))
    have z0 := hrs1.cell 0
    have f0 := hrs1.frozen 0
    simp at z0
    have q0 : (w1.setCell ⟨w.heap.size + 1, 0, none⟩ (.slice none 0 0)).cell? ⟨w.heap.size + 1, 0, none⟩ = some (.slice none 0 0) := (hrs1.set_ 0 _).cell 0
    clear hb1
    go_wp2
    exact bodyPost_ret (v := .tuple #[.agg #[.slice none 0 0], .int .i64 x]) (by simp [results, Try.results33, go_sem, q0]) rfl (HQ.out _ (hw1.setCell (by simp) _))
  have W0 := well_of h0
  have HQ := Lib.hid (hQ2 h0)
  rw [h0] at HWL
  generalize SimpQ g w = Q at HQ ⊢
  generalize (wellG g).1 = y at HWL
  have h10 := W0.right.ten
  have hcp : ∀ (j : Nat) (nm : ByteArray) (k' a' b' c' d' : Int) (t' : ByteArray) (ks' : List Ex) (A' : Option Addr) (cp' : Nat) (W : World), Below w.heap.size w W -> g[j]? = some (nm, .mk k' a' b' c' d' t' ks') -> ExIs w w.heap.size (.mk k' a' b' c' d' t' ks') (exCells k' a' b' c' d' t' A' ks'.length cp') ->
      Calls Try.prog 67 #[.agg #[.int .i64 k', .int .u64 a', .int .u64 b', .int .u64 c', .int .u64 d', .string t', .slice A' ks'.length cp']] W (MadeQ (idE (.mk k' a' b' c' d' t' ks')) W) := fun j nm k' a' b' c' d' t' ks' A' cp' W hW hej hx =>
    copy_any _ (k8_rt (W0.right.rt _ (List.mem_of_getElem? hej))) _ W (hx.grow hW)
  have HKO := Lib.hid hcp
  have HG := Lib.hid h
  have HW0 := Lib.hid W0
  obtain ⟨i0, hi0, hz0, hz1, hz2⟩ := info_parts rule_info
  have hgcap := h.cap
  unfold maxLen at hgcap
  clear hQ1 hQ2 hwl h h0 hcp W0
  go_enter Try.func33, Try.ntmps33
  go_wp2_with fail
  refine (HWL.out _ bl).mono ?_
  rintro e w1 ⟨rfl, hb1⟩
  have hgx1 : Blk w1 w.heap.size 24 #[.slice A g.length cp] := ((blk_at rfl).alloc _).below hb1 (by first | omega | (simp; omega) | simp)
  have hrs1 : Blk w1 (w.heap.size + 1) 24 #[.slice none 0 0] := (blk_at (by simp)).below hb1 (by simp)
  have hw1 : Below w.heap.size w w1 := Below.trans bl (hb1.mono (by first | omega | (simp; omega) | simp))
  have g0 := hgx1.cell 0
  simp at g0
  have hs1 : w.heap.size + 1 < w1.heap.size := hrs1.lt
  have hgl1 := hgx1.lt
  clear hb1
  have HST : Hid (KnI idE g w w1.heap.size none 0 (fun _ => []) 0 (w1.alloc (.cells #[.slice none 0 0] 24))) :=
    ⟨hw1.alloc (by omega) _, hrs1.alloc _, by omega, blk_at rfl, Rus.nil _ _⟩
  clear hgx1
  go_wp2
  go_loopw [27] (fun i wr => ∃ j : Nat, j <= g.length /\ i = .int .i64 j /\ ∃ V c rows, KnI idE g w w1.heap.size V c rows j wr) (fun i _ => g.length - (intOf i).toNat)
  case atStart => exact ⟨0, by omega, rfl, _, _, _, HST.out⟩
  case round =>
    clear HST
    obtain ⟨j, hj, rfl, V, c, rows, hI⟩ := hrel
    have hbw := hI.bel
    have hnl := hI.out.lt
    by_cases hjn : j < g.length
    · obtain ⟨ad, nm, k', a', b', c', d', t', ks', A', cp', rfl, hab, hej, hnm, hE, hS⟩ := HG.out.rule hjn
      have hcc : Eight wr (ad.add (j * 8)) nm k' a' b' c' d' t' A' ks'.length cp' :=
        have hk := fun (q : Addr) (hq : q.block = (ad.add (j * 8)).block) => hbw.cell (p := q) (by rw [hq, add_block]; omega)
        ⟨(hk _ rfl).trans hS.c0, (hk ⟨_, _, none⟩ rfl).trans hS.c1, (hk ⟨_, _, none⟩ rfl).trans hS.c2, (hk ⟨_, _, none⟩ rfl).trans hS.c3, (hk ⟨_, _, none⟩ rfl).trans hS.c4, (hk ⟨_, _, none⟩ rfl).trans hS.c5, (hk ⟨_, _, none⟩ rfl).trans hS.c6, (hk ⟨_, _, none⟩ rfl).trans hS.c7⟩
      obtain ⟨y0, y1, y2, y3, y4, y5, y6, y7⟩ := hcc
      have had1 : ad.block < wr.heap.size := by omega
      have hjl : (j : Int) < (g.length : Int) := by omega
      have hc1 := fun W hW => HKO.out j nm k' a' b' c' d' t' ks' A' cp' W hW hej hE
      have HC1 := Lib.hid hc1
      have HEJ := Lib.hid hej
      have HNM := Lib.hid hnm
      clear hc1 hS hE hej hnm
      have hC0 : RuC w1.heap.size wr.heap.size #[.slice V j c] #[.string nm, .int .i64 k', .int .u64 a', .int .u64 b', .int .u64 c', .int .u64 d', .string t', .slice A' ks'.length cp'] (wr.alloc (.cells #[.string nm, .int .i64 k', .int .u64 a', .int .u64 b', .int .u64 c', .int .u64 d', .string t', .slice A' ks'.length cp'] 96)) := ⟨hI.out.alloc _, blk_at rfl⟩
      have hI1 := hI.below ((Below.refl _ wr).alloc (Nat.le_refl _) (.cells #[.string nm, .int .i64 k', .int .u64 a', .int .u64 b', .int .u64 c', .int .u64 d', .string t', .slice A' ks'.length cp'] 96))
      have hll : ((g.take j).map fun r => (r.1, idE r.2)).length = j := by simp; omega
      have hold : ∀ q, (Value.slice V j c).ownBlock = some q -> q < wr.heap.size := fun q hq => hI.rus.old q (by rw [hll]; exact hq)
      have hkne : some wr.heap.size ≠ (Value.slice V j c).ownBlock := fun e => by have := hold _ e.symm; omega
      have hone : some (w1.heap.size) ≠ (Value.slice V j c).ownBlock := fun e => by have h1 := hI.rus.own.lt (w1.heap.size) (by rw [hll]; exact e.symm); omega
      have hbase1 : w1.heap.size + 1 <= (wr.alloc (.cells #[.string nm, .int .i64 k', .int .u64 a', .int .u64 b', .int .u64 c', .int .u64 d', .string t', .slice A' ks'.length cp'] 96)).heap.size := by simp; omega
      have hold1 : ∀ q, (Value.slice V j c).ownBlock = some q -> q < (wr.alloc (.cells #[.string nm, .int .i64 k', .int .u64 a', .int .u64 b', .int .u64 c', .int .u64 d', .string t', .slice A' ks'.length cp'] 96)).heap.size := fun q hq => by have := hold q hq; simp; omega
      clear hold hI
      go_upto_region 8 with fail
      generalize (wr.alloc (.cells #[.string nm, .int .i64 k', .int .u64 a', .int .u64 b', .int .u64 c', .int .u64 d', .string t', .slice A' ks'.length cp'] 96)) = w11 at hC0 hI1 hbase1 hold1 ⊢
      generalize wr.heap.size = kb at hC0 hkne ⊢
      clear y0 y1 y2 y3 y4 y5 y6 y7 had1 hbw
      refine wp_region_l (RuC w1.heap.size kb #[.slice V j c] #[.string nm, .int .i64 k', .int .u64 a', .int .u64 b', .int .u64 c', .int .u64 d', .string t', .slice A' ks'.length cp']) (· == 11) (by kernel_rfl) ?_
      have hC := hC0.below (Below.refl _ _).drew
      have hI := hI1.below (Below.refl _ _).drew
      have hbd : (w11.drew).heap.size = w11.heap.size := rfl
      rw [<- hbd] at hbase1 hold1
      generalize w11.drew = wd at hC hI hbase1 hold1 ⊢
      clear hC0 hI1 hbd
      apply L.rd (i := 0) rfl (by kernel_rfl) hC rfl
      · intro W hW
        skip
        unfold readW
        go_simp
        first | rfl | exact ⟨rfl, rfl⟩
      first | simp only [Act.put, p1, p2, p3] | skip
      apply L.rd (i := 1) rfl (by kernel_rfl) hC rfl
      · intro W hW
        have n0 := hW.out.cell 0
        unfold readW
        go_simp
        first | rfl | exact ⟨rfl, rfl⟩
      first | simp only [Act.put, p1, p2, p3] | skip
      apply L.rd (i := 2) rfl (by kernel_rfl) hC rfl
      · intro W hW
        skip
        unfold readW
        go_simp
        first | rfl | exact ⟨rfl, rfl⟩
      first | simp only [Act.put, p1, p2, p3] | skip
      apply L.rd (i := 3) rfl (by kernel_rfl) hC rfl
      · intro W hW
        have n0 := hW.rule.cell 0
        unfold readW
        go_simp
        first | rfl | exact ⟨rfl, rfl⟩
      first | simp only [Act.put, p1, p2, p3] | skip
      apply L.rd (i := 4) rfl (by kernel_rfl) hC rfl
      · intro W hW
        skip
        unfold readW
        go_simp
        first | rfl | exact ⟨rfl, rfl⟩
      first | simp only [Act.put, p1, p2, p3] | skip
      apply L.rd (i := 5) rfl (by kernel_rfl) hC rfl
      · intro W hW
        have r1 := hW.rule.cell 1; have r2 := hW.rule.cell 2; have r3 := hW.rule.cell 3; have r4 := hW.rule.cell 4; have r5 := hW.rule.cell 5; have r6 := hW.rule.cell 6; have r7 := hW.rule.cell 7
        unfold readW
        go_simp
        first | rfl | exact ⟨rfl, rfl⟩
      first | simp only [Act.put, p1, p2, p3] | skip
      apply L.one (i := 6) rfl (by kernel_rfl) rfl
      unfold stepT
      go_simp
      go_at_call 67
      refine (HC1.out _ hI.bel).mono ?_
      rintro e wn ⟨⟨rc, rfl, hF⟩, hbn⟩
      have hC := hC.below hbn
      have hI := hI.below hbn
      have hbase2 := Nat.le_trans hbase1 hbn.size
      clear hbn
      have hrc := ex_one' hF.is
      obtain ⟨k1, a1, b1, c1, d1, t1, A1, n1, cp1, rfl⟩ := Ex.parts _ hF.is
      refine ⟨_, rfl, hC, ?_⟩
      first | simp only [Act.put, p1, p2, p3] | skip
      apply L.rd (i := 7) rfl (by kernel_rfl) hC rfl
      · intro W hW
        skip
        unfold readW
        go_simp
        first | rfl | exact ⟨rfl, rfl⟩
      first | simp only [Act.put, p1, p2, p3] | skip
      apply L.one (i := 8) rfl (by kernel_rfl) rfl
      unfold stepT
      go_simp
      have hF1 := (hF.keep (W' := wn.alloc (.cells #[.string nm, .int .i64 k1, .int .u64 a1, .int .u64 b1, .int .u64 c1, .int .u64 d1, .string t1, .slice A1 n1 cp1] 96)) fun p hp => World.cell?_alloc_lt wn _ p hp.2).mono (S' := fun b => wd.heap.size <= b /\ b < (wn.alloc (.cells #[.string nm, .int .i64 k1, .int .u64 a1, .int .u64 b1, .int .u64 c1, .int .u64 d1, .string t1, .slice A1 n1 cp1] 96)).heap.size) (fun b hb => ⟨hb.1, by simp; omega⟩) (hi' := (wn.alloc (.cells #[.string nm, .int .i64 k1, .int .u64 a1, .int .u64 b1, .int .u64 c1, .int .u64 d1, .string t1, .slice A1 n1 cp1] 96)).heap.size) (by simp)
      have hkb : Blk (wn.alloc (.cells #[.string nm, .int .i64 k1, .int .u64 a1, .int .u64 b1, .int .u64 c1, .int .u64 d1, .string t1, .slice A1 n1 cp1] 96)) wn.heap.size 96 #[.string nm, .int .i64 k1, .int .u64 a1, .int .u64 b1, .int .u64 c1, .int .u64 d1, .string t1, .slice A1 n1 cp1] := blk_at rfl
      have hC := hC.below ((Below.refl _ _).alloc (Nat.le_refl _) (.cells #[.string nm, .int .i64 k1, .int .u64 a1, .int .u64 b1, .int .u64 c1, .int .u64 d1, .string t1, .slice A1 n1 cp1] 96))
      have hI := hI.below ((Below.refl _ _).alloc (Nat.le_refl _) (.cells #[.string nm, .int .i64 k1, .int .u64 a1, .int .u64 b1, .int .u64 c1, .int .u64 d1, .string t1, .slice A1 n1 cp1] 96))
      have hbase3 : w1.heap.size + 1 <= (wn.alloc (.cells #[.string nm, .int .i64 k1, .int .u64 a1, .int .u64 b1, .int .u64 c1, .int .u64 d1, .string t1, .slice A1 n1 cp1] 96)).heap.size := by simp; omega
      generalize (wn.alloc (.cells #[.string nm, .int .i64 k1, .int .u64 a1, .int .u64 b1, .int .u64 c1, .int .u64 d1, .string t1, .slice A1 n1 cp1] 96)) = wk at hC hI hkb hF1 hbase3 ⊢
      generalize wn.heap.size = rb at hkb ⊢
      clear hF hbase2
      refine ⟨hC, ?_⟩
      apply L.one (i := 9) rfl (by kernel_rfl) rfl
      refine stepT_append_at (.tmp 32) (.tmp 39) 22 rfl (w1.heap.size + 1) 96 i0 _ 8 96 Try.underlying22 hi0 hz0 hz1 hz2 rfl (by decide) (.slice V j c) j (ruF ((g.take j).map fun r => (r.1, idE r.2)) rows 0) (by simp [Act.eval]) (by have h1 := hI.rus.own; rw [hll] at h1; exact h1) ⟨rb, 0, none⟩ 1 1 (.string nm :: [.int .i64 k1, .int .u64 a1, .int .u64 b1, .int .u64 c1, .int .u64 d1, .string t1, .slice A1 n1 cp1]) (by simp [Act.eval]) rfl (fun i u hu => by rw [cell_add]; exact (hkb.cell i).trans (by rw [List.getElem?_toArray]; exact hu)) (fun u hu => by rcases List.mem_cons.1 hu with rfl | hu; rfl; exact hrc u hu) (by unfold maxLen; omega) (by omega) hbase3 ?_
      intro v' w3 hown hgr hat
      obtain ⟨V3, c3, rfl⟩ := own_form hown
      have hI3 := hI.push HEJ.out hbase1 hold1 HNM.out hF1 hown hgr hat
      have hC := hC.grown hgr hone hkne
      refine ⟨fun _ => hC, ?_⟩
      first | simp only [Act.put, p1, p2, p3] | skip
      apply L.rd (i := 10) rfl (by kernel_rfl) hC rfl
      · intro W hW
        skip
        unfold readW
        go_simp
        first | rfl | exact ⟨rfl, rfl⟩
      first | simp only [Act.put, p1, p2, p3] | skip
      have n0 := hC.out.cell 0
      have f0 := hC.out.frozen 0
      apply L.one (i := 11) rfl (by kernel_rfl) rfl
      unfold stepT
      go_simp
      refine L.done (by kernel_rfl) ?_
      have HI3 := Lib.hid hI3
      clear hI hI3 hC hown hgr hkb n0 f0 hat hF1 hold1 hbase1 hbase3 hkne hone hll
      go_wp2
      go_roundw
      case rel => exact ⟨j + 1, by omega, by go_num, _, _, _, HI3.out⟩
      case measure => simp [intOf]; omega
    · obtain rfl : j = g.length := by omega
      have hgr := hI.rus.gr
      rw [List.take_length] at hgr
      have hid : (g.map fun r => (r.1, idE r.2)) = g := by
        unfold idE
        exact List.map_id' g
      rw [hid] at hgr
      have hob := hI.out
      have hrs := hI.res
      have hs1' := hI.nlo
      generalize w1.heap.size = nb at hgr hob hs1' ⊢
      have HIN : Hid (Below w.heap.size w wr /\ Blk wr (w.heap.size + 1) 24 #[.slice none 0 0] /\ Blk wr nb 24 #[.slice V g.length c] /\ GrF (fun b => nb + 1 <= b /\ b < wr.heap.size) wr.heap.size wr g V c rows) := ⟨hbw, hrs, hob, hgr⟩
      clear hI hbw hnl hgr hid hob hrs HWL HKO HG g0 hw1 hrs1 hs1 hgl1 hjn hj
      rename World => ws
      go_wp2
      go_loopg [9] (nodesG g + 1) (fun n _ wr => ∃ (G : List Rl) (GV : Option Addr) (gc : Nat) (grows : Nat -> List Value), Below w.heap.size w wr /\ Blk wr (w.heap.size + 1) 24 #[.slice none 0 0] /\ Blk wr nb 24 #[.slice GV g.length gc] /\ Hid (GrF (fun b => nb + 1 <= b /\ b < wr.heap.size) wr.heap.size wr G GV gc grows) /\ Hid (G.length = g.length) /\ Hid (WellG G /\ nodesG G < n /\ simN n G = simpG g))
      case atStart => exact ⟨g, V, c, rows, HIN.out.1, HIN.out.2.1, HIN.out.2.2.1, HIN.out.2.2.2, rfl, HW0.out, by omega, rfl⟩
      case round =>
        clear HIN HW0
        obtain ⟨G, GV, gc, grows, hwr, hrs, hob, HGF, HGL, HR⟩ := hrel
        obtain ⟨W1, hlt, hsn⟩ := HR.out
        obtain ⟨f, rfl⟩ : ∃ f, gk = f + 1 := ⟨gk - 1, by omega⟩
        have hfa := wfacts_any HGF.out.is
        unfold FactsQ at hfa
        rw [HGL.out] at hfa
        have HFA := Lib.hid hfa
        have HW1 := Lib.hid W1
        have HLT := Lib.hid hlt
        have HSN := Lib.hid hsn
        have o0 : wr.cell? ⟨nb, 0, none⟩ = some (.slice GV g.length gc) := hob.cell 0
        have hnl := hob.lt
        clear hfa W1 hlt hsn HR
        go_wp2_with fail
        refine HFA.out.mono ?_
        rintro e w2 ⟨hb2, ⟨hbad, _⟩ | ⟨_, fb, rfl, hfb, hfl⟩⟩
        · exact absurd (check_of HW1.out.right) hbad
        clear HFA
        have hob2 := hob.below hb2 hnl
        have hrs2 := hrs.below hb2 hrs.lt
        have hw2 := hwr.trans (hb2.mono hwr.size)
        have hgf2 := (HGF.out.keep (W' := w2) fun p hp => hb2.cell hp.2).mono (S' := fun b => nb + 1 <= b /\ b < w2.heap.size) (fun b hb => ⟨hb.1, Nat.lt_of_lt_of_le hb.2 hb2.size⟩) hb2.size
        have hfbl : fb < w2.heap.size := Blk.lt hfb
        have hof : ∀ (j : Nat) (nm : ByteArray) (k' a' b' c' d' : Int) (t' : ByteArray) (ks' : List Ex) (A' : Option Addr) (cp' : Nat) (W : World) (m' : Bool), Below w2.heap.size w2 W -> Blk W w2.heap.size 138 (mkS GV (some ⟨fb, 0, none⟩) g.length gc g.length g.length m') -> G[j]? = some (nm, .mk k' a' b' c' d' t' ks') -> ExIs w2 w2.heap.size (.mk k' a' b' c' d' t' ks') (exCells k' a' b' c' d' t' A' ks'.length cp') ->
            Calls Try.prog 69 #[.pointer (some ⟨w2.heap.size, 0, none⟩), .agg #[.int .i64 k', .int .u64 a', .int .u64 b', .int .u64 c', .int .u64 d', .string t', .slice A' ks'.length cp']] W (SimQ W.heap.size (simF G (.mk k' a' b' c' d' t' ks')) w2.heap.size (mkS GV (some ⟨fb, 0, none⟩) g.length gc g.length g.length (m' || (simE G (factsG G) (.mk k' a' b' c' d' t' ks')).2)) W) := fun j nm k' a' b' c' d' t' ks' A' cp' W m' hW hmk hej hx => by
          have hfn : (factsG G).length = g.length := (facts_len G).trans HGL.out
          have h1 := sof_any (fcp := g.length) (gcp := gc) (GA := GV) (FA := some ⟨fb, 0, none⟩) (row := grows) (mb := w2.heap.size) (fits_of HW1.out.right) (facts_len G) _ (HW1.out.good (List.mem_of_getElem? hej)) _ W m' (hgf2.is.keep (Nat.le_refl _) fun _ hp => hW.cell hp) ((hfb.reads hfbl).below hW) (hx.keep (Nat.le_refl _) fun _ hp => hW.cell hp)
          rw [hfn, HGL.out] at h1
          exact h1 hmk
        have HOF := Lib.hid hof
        have HG2 := Lib.hid hgf2
        have o1 : w2.cell? ⟨nb, 0, none⟩ = some (.slice GV g.length gc) := hob2.cell 0
        have hnl2 := hob2.lt
        have HSI : Hid (SgI (simF G) G w2.heap.size (w2.heap.size + 1) (mkS GV (some ⟨fb, 0, none⟩) g.length gc g.length g.length) w2 none 0 (fun _ => []) 0 false ((w2.alloc (.cells #[.slice GV g.length gc, .slice (some ⟨fb, 0, none⟩) g.length g.length, .bool false] 138)).alloc (.cells #[.slice none 0 0] 24))) :=
          ⟨bl, Nat.le_refl _, by omega, (blk_at rfl).alloc _, blk_at (by simp), Rus.nil _ _⟩
        clear hof hgf2 HGF hfb hob hb2 o0 hwr hrs
        go_wp2
        obtain ⟨mb, hmb⟩ : ∃ mb, w2.heap.size = mb := ⟨_, rfl⟩
        rw [hmb] at HSI HOF
        rw [hmb]
        obtain ⟨xb, hxb⟩ : ∃ xb, mb + 1 = xb := ⟨_, rfl⟩
        rw [hxb] at HSI
        rw [hxb]
        go_loopw [54] (fun i wx => ∃ (j : Nat) (m' : Bool), j <= g.length /\ i = .int .i64 j /\ Hid (m' = (G.take j).any fun r => (simE G (factsG G) r.2).2) /\ ∃ V c rows, SgI (simF G) G mb xb (mkS GV (some ⟨fb, 0, none⟩) g.length gc g.length g.length) w2 V c rows j m' wx) (fun i _ => g.length - (intOf i).toNat)
        case atStart => exact ⟨0, false, by omega, rfl, by show false = _; simp, _, _, _, HSI.out⟩
        case round =>
          clear HSI
          obtain ⟨j, m', hj, rfl, HMM, V, c, rows, hI⟩ := hrel
          have hnl3 := hI.out.lt
          by_cases hjn : j < g.length
          · obtain ⟨ad, nm, k', a', b', c', d', t', ks', A', cp', rfl, hab, hej, hnm, hE, hS⟩ := HG2.out.is.rule (j := j) (by rw [HGL.out]; exact hjn)
            have hcc : Eight wr (ad.add (j * 8)) nm k' a' b' c' d' t' A' ks'.length cp' :=
              have hk := fun (q : Addr) (hq : q.block = (ad.add (j * 8)).block) => hI.bel.cell (p := q) (by rw [hq, add_block]; omega)
              ⟨(hk _ rfl).trans hS.c0, (hk ⟨_, _, none⟩ rfl).trans hS.c1, (hk ⟨_, _, none⟩ rfl).trans hS.c2, (hk ⟨_, _, none⟩ rfl).trans hS.c3, (hk ⟨_, _, none⟩ rfl).trans hS.c4, (hk ⟨_, _, none⟩ rfl).trans hS.c5, (hk ⟨_, _, none⟩ rfl).trans hS.c6, (hk ⟨_, _, none⟩ rfl).trans hS.c7⟩
            obtain ⟨y0, y1, y2, y3, y4, y5, y6, y7⟩ := hcc
            have had1 : ad.block < wr.heap.size := by have := hI.bel.size; omega
            have hjl : (j : Int) < (g.length : Int) := by omega
            have hGl : G.length = g.length := HGL.out
            have HMS : Hid ((m' || (simE G (factsG G) (.mk k' a' b' c' d' t' ks')).2) = (G.take (j + 1)).any fun r => (simE G (factsG G) r.2).2) := by
              show _ = _
              rw [take_succ_of hej, List.any_append, List.any_cons, List.any_nil, Bool.or_false, HMM.out]
            rw [hmb] at hE
            have hc1 := fun W m' (hW : Below w2.heap.size w2 W) hmk => HOF.out j nm k' a' b' c' d' t' ks' A' cp' W m' (hmb ▸ hW) hmk hej hE
            have HC1 := Lib.hid hc1
            have HEJ := Lib.hid hej
            have HNM := Lib.hid hnm
            have hmbl : mb < wr.heap.size := by have := hI.mak.lt; omega
            clear hc1 hS hE hej hnm HMM
            have hC0 : RuC xb wr.heap.size #[.slice V j c] #[.string nm, .int .i64 k', .int .u64 a', .int .u64 b', .int .u64 c', .int .u64 d', .string t', .slice A' ks'.length cp'] (wr.alloc (.cells #[.string nm, .int .i64 k', .int .u64 a', .int .u64 b', .int .u64 c', .int .u64 d', .string t', .slice A' ks'.length cp'] 96)) := ⟨hI.out.alloc _, blk_at rfl⟩
            have hI1 := hI.below ((Below.refl _ wr).alloc (Nat.le_refl _) (.cells #[.string nm, .int .i64 k', .int .u64 a', .int .u64 b', .int .u64 c', .int .u64 d', .string t', .slice A' ks'.length cp'] 96))
            have hll : ((G.take j).map fun r => (r.1, simF G r.2)).length = j := by simp; omega
            have hold : ∀ q, (Value.slice V j c).ownBlock = some q -> q < wr.heap.size := fun q hq => hI.rus.old q (by rw [hll]; exact hq)
            have hkne : some wr.heap.size ≠ (Value.slice V j c).ownBlock := fun e => by have := hold _ e.symm; omega
            have hone : some (xb) ≠ (Value.slice V j c).ownBlock := fun e => by have h1 := hI.rus.own.lt (xb) (by rw [hll]; exact e.symm); omega
            have hbase1 : xb + 1 <= (wr.alloc (.cells #[.string nm, .int .i64 k', .int .u64 a', .int .u64 b', .int .u64 c', .int .u64 d', .string t', .slice A' ks'.length cp'] 96)).heap.size := by simp; omega
            have hold1 : ∀ q, (Value.slice V j c).ownBlock = some q -> q < (wr.alloc (.cells #[.string nm, .int .i64 k', .int .u64 a', .int .u64 b', .int .u64 c', .int .u64 d', .string t', .slice A' ks'.length cp'] 96)).heap.size := fun q hq => by have := hold q hq; simp; omega
            clear hold hI
            go_upto_region 16 with fail
            have hkmb : some wr.heap.size ≠ some mb := fun e => by injection e with e; omega
            generalize (wr.alloc (.cells #[.string nm, .int .i64 k', .int .u64 a', .int .u64 b', .int .u64 c', .int .u64 d', .string t', .slice A' ks'.length cp'] 96)) = w11 at hC0 hI1 hbase1 hold1 ⊢
            generalize wr.heap.size = kb at hC0 hkne hkmb ⊢
            clear y0 y1 y2 y3 y4 y5 y6 y7 had1
            refine wp_region_l (RuC xb kb #[.slice V j c] #[.string nm, .int .i64 k', .int .u64 a', .int .u64 b', .int .u64 c', .int .u64 d', .string t', .slice A' ks'.length cp']) (· == 11) (by kernel_rfl) ?_
            have hC := hC0.below (Below.refl _ _).drew
            have hI := hI1.below (Below.refl _ _).drew
            have hbd : (w11.drew).heap.size = w11.heap.size := rfl
            rw [<- hbd] at hbase1 hold1
            generalize w11.drew = wd at hC hI hbase1 hold1 ⊢
            clear hC0 hI1 hbd
            apply L.rd (i := 0) rfl (by kernel_rfl) hC rfl
            · intro W hW
              skip
              unfold readW
              go_simp
              first | rfl | exact ⟨rfl, rfl⟩
            first | simp only [Act.put, p1, p2, p3] | skip
            apply L.rd (i := 1) rfl (by kernel_rfl) hC rfl
            · intro W hW
              have n0 := hW.out.cell 0
              unfold readW
              go_simp
              first | rfl | exact ⟨rfl, rfl⟩
            first | simp only [Act.put, p1, p2, p3] | skip
            apply L.rd (i := 2) rfl (by kernel_rfl) hC rfl
            · intro W hW
              skip
              unfold readW
              go_simp
              first | rfl | exact ⟨rfl, rfl⟩
            first | simp only [Act.put, p1, p2, p3] | skip
            apply L.rd (i := 3) rfl (by kernel_rfl) hC rfl
            · intro W hW
              have n0 := hW.rule.cell 0
              unfold readW
              go_simp
              first | rfl | exact ⟨rfl, rfl⟩
            first | simp only [Act.put, p1, p2, p3] | skip
            apply L.rd (i := 4) rfl (by kernel_rfl) hC rfl
            · intro W hW
              skip
              unfold readW
              go_simp
              first | rfl | exact ⟨rfl, rfl⟩
            first | simp only [Act.put, p1, p2, p3] | skip
            apply L.rd (i := 5) rfl (by kernel_rfl) hC rfl
            · intro W hW
              have r1 := hW.rule.cell 1; have r2 := hW.rule.cell 2; have r3 := hW.rule.cell 3; have r4 := hW.rule.cell 4; have r5 := hW.rule.cell 5; have r6 := hW.rule.cell 6; have r7 := hW.rule.cell 7
              unfold readW
              go_simp
              first | rfl | exact ⟨rfl, rfl⟩
            first | simp only [Act.put, p1, p2, p3] | skip
            apply L.one (i := 6) rfl (by kernel_rfl) rfl
            unfold stepT
            go_simp
            go_at_call 69
            refine (HC1.out _ _ hI.bel hI.mak).mono ?_
            rintro e wn ⟨⟨rc, rfl, hF⟩, hgn, hmn⟩
            have hC := hC.grown hgn (fun e => by injection e with e; omega) hkmb
            have hI := hI.call hgn hmn
            have hbase2 := Nat.le_trans hbase1 hgn.size
            clear hgn hmn
            have hrc := ex_one' hF.is
            obtain ⟨k1, a1, b1, c1, d1, t1, A1, n1, cp1, rfl⟩ := Ex.parts _ hF.is
            refine ⟨_, rfl, hC, ?_⟩
            first | simp only [Act.put, p1, p2, p3] | skip
            apply L.rd (i := 7) rfl (by kernel_rfl) hC rfl
            · intro W hW
              skip
              unfold readW
              go_simp
              first | rfl | exact ⟨rfl, rfl⟩
            first | simp only [Act.put, p1, p2, p3] | skip
            apply L.one (i := 8) rfl (by kernel_rfl) rfl
            unfold stepT
            go_simp
            have hF1 := (hF.keep (W' := wn.alloc (.cells #[.string nm, .int .i64 k1, .int .u64 a1, .int .u64 b1, .int .u64 c1, .int .u64 d1, .string t1, .slice A1 n1 cp1] 96)) fun p hp => World.cell?_alloc_lt wn _ p hp.2).mono (S' := fun b => wd.heap.size <= b /\ b < (wn.alloc (.cells #[.string nm, .int .i64 k1, .int .u64 a1, .int .u64 b1, .int .u64 c1, .int .u64 d1, .string t1, .slice A1 n1 cp1] 96)).heap.size) (fun b hb => ⟨hb.1, by simp; omega⟩) (hi' := (wn.alloc (.cells #[.string nm, .int .i64 k1, .int .u64 a1, .int .u64 b1, .int .u64 c1, .int .u64 d1, .string t1, .slice A1 n1 cp1] 96)).heap.size) (by simp)
            have hkb : Blk (wn.alloc (.cells #[.string nm, .int .i64 k1, .int .u64 a1, .int .u64 b1, .int .u64 c1, .int .u64 d1, .string t1, .slice A1 n1 cp1] 96)) wn.heap.size 96 #[.string nm, .int .i64 k1, .int .u64 a1, .int .u64 b1, .int .u64 c1, .int .u64 d1, .string t1, .slice A1 n1 cp1] := blk_at rfl
            have hC := hC.below ((Below.refl _ _).alloc (Nat.le_refl _) (.cells #[.string nm, .int .i64 k1, .int .u64 a1, .int .u64 b1, .int .u64 c1, .int .u64 d1, .string t1, .slice A1 n1 cp1] 96))
            have hI := hI.below ((Below.refl _ _).alloc (Nat.le_refl _) (.cells #[.string nm, .int .i64 k1, .int .u64 a1, .int .u64 b1, .int .u64 c1, .int .u64 d1, .string t1, .slice A1 n1 cp1] 96))
            have hbase3 : xb + 1 <= (wn.alloc (.cells #[.string nm, .int .i64 k1, .int .u64 a1, .int .u64 b1, .int .u64 c1, .int .u64 d1, .string t1, .slice A1 n1 cp1] 96)).heap.size := by simp; omega
            generalize (wn.alloc (.cells #[.string nm, .int .i64 k1, .int .u64 a1, .int .u64 b1, .int .u64 c1, .int .u64 d1, .string t1, .slice A1 n1 cp1] 96)) = wk at hC hI hkb hF1 hbase3 ⊢
            generalize wn.heap.size = rb at hkb ⊢
            clear hF hbase2
            refine ⟨hC, ?_⟩
            apply L.one (i := 9) rfl (by kernel_rfl) rfl
            refine stepT_append_at (.tmp 59) (.tmp 66) 22 rfl (xb + 1) 96 i0 _ 8 96 Try.underlying22 hi0 hz0 hz1 hz2 rfl (by decide) (.slice V j c) j (ruF ((G.take j).map fun r => (r.1, simF G r.2)) rows 0) (by simp [Act.eval]) (by have h1 := hI.rus.own; rw [hll] at h1; exact h1) ⟨rb, 0, none⟩ 1 1 (.string nm :: [.int .i64 k1, .int .u64 a1, .int .u64 b1, .int .u64 c1, .int .u64 d1, .string t1, .slice A1 n1 cp1]) (by simp [Act.eval]) rfl (fun i u hu => by rw [cell_add]; exact (hkb.cell i).trans (by rw [List.getElem?_toArray]; exact hu)) (fun u hu => by rcases List.mem_cons.1 hu with rfl | hu; rfl; exact hrc u hu) (by unfold maxLen; omega) (by omega) hbase3 ?_
            intro v' w3 hown hgr hat
            obtain ⟨V3, c3, rfl⟩ := own_form hown
            have hI3 := hI.push HEJ.out hbase1 hold1 HNM.out hF1 hown hgr hat
            have hC := hC.grown hgr hone hkne
            refine ⟨fun _ => hC, ?_⟩
            first | simp only [Act.put, p1, p2, p3] | skip
            apply L.rd (i := 10) rfl (by kernel_rfl) hC rfl
            · intro W hW
              skip
              unfold readW
              go_simp
              first | rfl | exact ⟨rfl, rfl⟩
            first | simp only [Act.put, p1, p2, p3] | skip
            have n0 := hC.out.cell 0
            have f0 := hC.out.frozen 0
            apply L.one (i := 11) rfl (by kernel_rfl) rfl
            unfold stepT
            go_simp
            refine L.done (by kernel_rfl) ?_
            have HI3 := Lib.hid hI3
            clear hI hI3 hC hown hgr hkb n0 f0 hat hF1 hold1 hbase1 hbase3 hkne hone hll hkmb
            go_wp2
            go_roundw
            case rel => exact ⟨j + 1, _, by omega, by go_num, HMS.out, _, _, _, HI3.out⟩
            case measure => simp [intOf]; omega
          · obtain rfl : j = g.length := by omega
            have hGl : G.length = g.length := HGL.out
            have hmm := HMM.out
            rw [<- hGl, List.take_length] at hmm
            have hmf : m' = (simG G).2 := hmm
            have hgr := hI.rus.gr
            rw [<- hGl, List.take_length, <- simG_map] at hgr
            have hz2 := hI.bel.size
            have hob3 := hob2.below hI.bel hnl2
            have hrs3 := hrs2.below hI.bel hrs2.lt
            have hw3 := hw2.trans (hI.bel.mono hw2.size)
            have x0 : wr.cell? ⟨xb, 0, none⟩ = some (.slice V g.length c) := hI.out.cell 0
            have m2 : wr.cell? ⟨mb, 2, none⟩ = some (.bool m') := hI.mak.cell 2
            have b0 : wr.cell? ⟨nb, 0, none⟩ = some (.slice GV g.length gc) := hob3.cell 0
            have bf := hob3.frozen 0
            have hml3 := hI.mak.lt
            have hxl3 := hI.out.lt
            have hob4 : Blk (wr.setCell ⟨nb, 0, none⟩ (.slice V g.length c)) nb 24 #[.slice V g.length c] := hob3.set_ 0 _
            have hrs4 := hrs3.far (p := ⟨nb, 0, none⟩) (by simp; omega) (.slice V g.length c)
            have hw4 := hw3.setCell (p := ⟨nb, 0, none⟩) (by simp; omega) (.slice V g.length c)
            have hsz4 : (wr.setCell ⟨nb, 0, none⟩ (.slice V g.length c)).heap.size = wr.heap.size := by simp [World.setCell]
            have hgr4 : GrF (fun b => nb + 1 <= b /\ b < (wr.setCell ⟨nb, 0, none⟩ (.slice V g.length c)).heap.size) (wr.setCell ⟨nb, 0, none⟩ (.slice V g.length c)).heap.size (wr.setCell ⟨nb, 0, none⟩ (.slice V g.length c)) (simG G).1 V c rows := by
              rw [hsz4]
              exact (hgr.keep fun p hp => World.cell?_setCell_other wr _ p _ (by rintro rfl; have := hp.1; simp at this; omega)).mono (fun b hb => ⟨by omega, hb.2⟩) (Nat.le_refl _)
            have m2' : (wr.setCell ⟨nb, 0, none⟩ (.slice V g.length c)).cell? ⟨mb, 2, none⟩ = some (.bool m') := (World.cell?_setCell_other wr ⟨nb, 0, none⟩ ⟨mb, 2, none⟩ _ (by simp; try omega)).trans m2
            have hlen2 : (simG G).1.length = g.length := by unfold simG; simp [hGl]
            have HW1' := HW1
            have HF := Lib.hid hmf
            clear hI hgr hob3 hrs3 hw3 HOF HMM hmm hmf m2 hz2
            go_upto_region 19 with fail
            clear x0 b0 bf
            generalize (wr.setCell ⟨nb, 0, none⟩ (.slice V g.length c)) = wy at hob4 hrs4 hw4 hgr4 m2' hsz4 ⊢
            have hml4 : mb < wy.heap.size := by omega
            cases m' with
            | true =>
              have hst : WellG (simG G).1 /\ nodesG (simG G).1 < f /\ simN f (simG G).1 = simpG g := by
                have h1 := (simG_sz G).2 HF.out.symm
                have h2 := HLT.out
                refine ⟨(simG_eq HW1.out).well, by omega, ?_⟩
                have h3 := HSN.out
                rw [simN, if_pos HF.out.symm] at h3
                exact h3
              have HST := Lib.hid hst
              have HGR4 := Lib.hid hgr4
              clear hst hgr4
              go_wp2
              go_roundg f
              case rel => exact ⟨_, V, c, rows, hw4, hrs4, hob4, HGR4.out, hlen2, HST.out⟩
              case measure => omega
            | false =>
              have hend : (simG G).1 = simpG g := by
                have h3 := HSN.out
                rw [simN, if_neg (by rw [<- HF.out]; decide)] at h3
                exact h3
              rw [hend] at hgr4
              have b0 : wy.cell? ⟨nb, 0, none⟩ = some (.slice V g.length c) := hob4.cell 0
              have z0 : wy.cell? ⟨w.heap.size + 1, 0, none⟩ = some (.slice none 0 0) := hrs4.cell 0
              have f0 := hrs4.frozen 0
              have q0 : (wy.setCell ⟨w.heap.size + 1, 0, none⟩ (.slice V g.length c)).cell? ⟨w.heap.size + 1, 0, none⟩ = some (.slice V g.length c) := (hrs4.set_ 0 _).cell 0
              have hsz5 : (wy.setCell ⟨w.heap.size + 1, 0, none⟩ (.slice V g.length c)).heap.size = wy.heap.size := by simp [World.setCell]
              have hG5 : GrF (fun b => w.heap.size <= b /\ b < (wy.setCell ⟨w.heap.size + 1, 0, none⟩ (.slice V g.length c)).heap.size) (wy.setCell ⟨w.heap.size + 1, 0, none⟩ (.slice V g.length c)).heap.size (wy.setCell ⟨w.heap.size + 1, 0, none⟩ (.slice V g.length c)) (simpG g) V c rows := by
                rw [hsz5]
                exact (hgr4.keep fun p hp => World.cell?_setCell_other wy _ p _ (by rintro rfl; have := hp.1; simp at this; omega)).mono (fun b hb => ⟨by omega, hb.2⟩) (Nat.le_refl _)
              have HG5 := Lib.hid hG5
              have hw5 := hw4.setCell (p := ⟨w.heap.size + 1, 0, none⟩) (by simp) (.slice V g.length c)
              have hnl5 := hob4.lt
              clear hgr4 hG5 hend
              go_wp2
              exact bodyPost_ret (v := .tuple #[.agg #[.slice V g.length c], .int .i64 0]) (by simp [results, Try.results33, go_sem, q0]) rfl (HQ.out _ _ _ _ hw5 HG5.out)
end Go.Proofs.Ytkmcnekjimobhaa
namespace Go.Proofs.Ytkmcnekjimobhaa
set_option maxHeartbeats 8000000
set_option maxRecDepth 100000
open Go.RowKit
structure RdS (w : World) (A : Option Addr) (n cp wb : Nat) (vb : Bool) (vn : Int) (W : World) : Prop where
  gx : Blk W w.heap.size 24 #[.slice A n cp]
  wt : Blk W wb 41 #[.bool vb, .int .i64 vn]
  b : Below w.heap.size w W
def RdT (w : World) (A : Option Addr) (n cp wb : Nat) (vb : Bool) (vn : Int) (W : World) : Prop := RdS w A n cp wb vb vn W /\ Below w.heap.size w W /\ W.cell? ⟨w.heap.size, 0, none⟩ = some (.slice A n cp) /\ W.cell? ⟨wb, 0, none⟩ = some (.bool vb) /\ W.cell? ⟨wb, 1, none⟩ = some (.int .i64 vn) /\ w.heap.size < W.heap.size /\ wb < W.heap.size /\ w.heap.size <= W.heap.size
theorem RdS.on {w : World} {A : Option Addr} {n cp wb : Nat} {vb : Bool} {vn : Int} {P W : World} (h : RdS w A n cp wb vb vn P) (hb : Below P.heap.size P W) :
    RdT w A n cp wb vb vn W := by
  have h1 := h.gx.below hb h.gx.lt
  have h2 := h.wt.below hb h.wt.lt
  have h3 := h.b.trans (hb.mono h.b.size)
  exact ⟨⟨h1, h2, h3⟩, h3, h1.cell 0, h2.cell 0, h2.cell 1, h1.lt, h2.lt, h3.size⟩
theorem RdS.on1 {w : World} {A : Option Addr} {n cp wb : Nat} {vb : Bool} {vn : Int} {P W : World} {c : Obj} (h : RdS w A n cp wb vb vn P) (hb : Below (P.alloc c).heap.size (P.alloc c) W) : RdT w A n cp wb vb vn W :=
  h.on (((Below.refl _ P).alloc (Nat.le_refl _) c).trans (hb.mono (by simp)))
theorem RdS.on2 {w : World} {A : Option Addr} {n cp wb : Nat} {vb : Bool} {vn : Int} {P W : World} {c d : Obj} (h : RdS w A n cp wb vb vn P) (hb : Below ((P.alloc c).alloc d).heap.size ((P.alloc c).alloc d) W) : RdT w A n cp wb vb vn W :=
  h.on ((((Below.refl _ P).alloc (Nat.le_refl _) c).alloc (by simp) d).trans (hb.mono (by simp; omega)))
theorem walk_TopRoads {g : List Rl} {A : Option Addr} {cp : Nat} {row : Nat -> List Value} (s : ByteArray) (w : World) (h : GrIs w w.heap.size g A cp row) (hwf : ∀ r ∈ g, WfE r.2) :
    Calls Try.prog 7 #[.agg #[.slice A g.length cp], .string s] w fun e w' => e = .returned (.bool true) /\ Below w.heap.size w w' := by
  have hso := run_same_out
  obtain ⟨C, o, hC⟩ := costs g s
  have HP := Lib.hid (fun W (hW : Below w.heap.size w W) => run_any (h.grow hW) hwf s)
  have HBG := Lib.hid begun1_any
  have HMR := Lib.hid (fun W (hW : Below w.heap.size w W) => mrun_any (h.grow hW) hwf s 1048575 hC)
  have HKE := Lib.hid (fun W (hW : Below w.heap.size w W) => kernel_any (h.grow hW))
  have HSI := Lib.hid (fun W (hW : Below w.heap.size w W) => simp_any (h.grow hW))
  have HMK := Lib.hid (fun W (hW : Below w.heap.size w W) => make_any (h.grow hW) hwf)
  have HWF := Lib.hid hwf
  have HC := Lib.hid hC
  clear h hwf hC
  go_enter Try.func7, Try.ntmps7
  have hgx : Blk (w.alloc (.cells #[.slice A g.length cp] 24)) w.heap.size 24 #[.slice A g.length cp] := blk_at rfl
  have hw1 : Below w.heap.size w (w.alloc (.cells #[.slice A g.length cp] 24)) := (Below.refl _ w).alloc (Nat.le_refl _) _
  go_wp2_with fail
  refine (HP.out _ hw1).mono ?_
  rintro e w1 ⟨hb1, hq⟩
  replace hgx := hgx.below hb1 hgx.lt
  replace hw1 := hw1.trans (hb1.mono hw1.size)
  clear hb1
  have hz := hw1.size
  have hgl := hgx.lt
  have g0 : w1.cell? ⟨w.heap.size, 0, none⟩ = some (.slice A g.length cp) := hgx.cell 0
  rcases hq with ⟨hne, rfl⟩ | ⟨hl0, o1, σ1, V1, c1, l1, ⟨m1, hpk⟩, _, _, _, rfl, _⟩
  · have hx0 : (lookG g s != 0) = true := by rw [bne_iff_ne]; exact hne
    have hov : outV none = .agg #[.bool false, .int .i64 0] := rfl
    rw [hov]
    generalize lookG g s = y at hx0
    clear hne hov
    have hwt : Blk (w1.alloc (.cells #[.bool false, .int .i64 0] 41)) w1.heap.size 41 #[.bool false, .int .i64 0] := blk_at rfl
    replace hw1 := hw1.alloc hz (.cells #[.bool false, .int .i64 0] 41)
    go_wp2_with fail
    refine (HBG.out _).mono ?_
    rintro e w2 ⟨rfl, hb2⟩
    replace hwt := hwt.below hb2 hwt.lt
    replace hw1 := hw1.trans (hb2.mono hw1.size)
    clear hb2
    go_wp2_with fail
    refine (HBG.out _).mono ?_
    rintro e w3 ⟨rfl, hb3⟩
    replace hwt := hwt.below hb3 hwt.lt
    replace hw1 := hw1.trans (hb3.mono hw1.size)
    have t0 : w3.cell? ⟨w1.heap.size, 0, none⟩ = some (.bool false) := hwt.cell 0
    have t1 : w3.cell? ⟨w1.heap.size, 1, none⟩ = some (.int .i64 0) := hwt.cell 1
    have hwl := hwt.lt
    have hz3 := hw1.size
    clear hb3 hgx g0
    go_wp2
    go_ret
    exact ⟨by simp, bl⟩
  have ho1 := (run_out hl0 hpk).1
  have W0 := (look_zero hl0).1
  have HW0 : Hid ((wellG g).2 = 0) := by rw [well_yes W0]; rfl
  have HKR := Lib.hid (fun (hc : checkG (kerG g) = 0) (V : Option Addr) (c : Nat) (rows : Nat -> List Value) (W : World) (hG : GrIs W W.heap.size (kerG g) V c rows) => run1_any hG (wf_kerG HWF.out) s ((look_ker (check_of W0.right) hc s).trans hl0))
  have HSR := Lib.hid (fun (V : Option Addr) (c : Nat) (rows : Nat -> List Value) (W : World) (hG : GrIs W W.heap.size (simpG g) V c rows) => run1_any hG (wf_simN _ HWF.out) s ((look_simR W0 s).trans hl0))
  have hlk : (kerG g).length = g.length := kerG_len g
  have hls : (simpG g).length = g.length := (simp_end W0).1.len
  rw [out_kerR W0 s, hlk] at HKR
  rw [out_simR W0 s, hls] at HSR
  have hcd := fun (h20 : C <= 1048575) => code1_any HWF.out HC.out hl0 h20
  have hoc := out_cost HC.out hl0
  rw [<- ho1, outV_eq]
  clear hpk ho1 hlk hls W0
  obtain ⟨vb, hvb⟩ : ∃ y, y = (outG g s).isSome := ⟨_, rfl⟩
  obtain ⟨vn, hvn⟩ : ∃ y, y = (((outG g s).getD 0 : Nat) : Int) := ⟨_, rfl⟩
  rw [<- hvb, <- hvn] at HKR HSR ⊢
  simp only [<- hvb, <- hvn] at hcd
  have HCD0 := Lib.hid hcd
  have HL0 := Lib.hid hl0
  have HVB := Lib.hid (show vb = o.isSome by rw [hoc]; exact hvb)
  have HVN := Lib.hid (show vn = ((o.getD 0 : Nat) : Int) by rw [hoc]; exact hvn)
  clear hcd hl0 hvb hvn hoc
  generalize l1.length + 1 = l1n
  have hwt : Blk (w1.alloc (.cells #[.bool vb, .int .i64 vn] 41)) w1.heap.size 41 #[.bool vb, .int .i64 vn] := blk_at rfl
  have hS : RdS w A g.length cp w1.heap.size vb vn (w1.alloc (.cells #[.bool vb, .int .i64 vn] 41)) := ⟨hgx.alloc _, hwt, hw1.alloc hz _⟩
  go_wp2_with fail
  refine (HBG.out _).mono ?_
  rintro e w2 ⟨rfl, hb2⟩
  have hn := hS.on hb2
  clear hb2 g0 hgl hz hwt hgx hS hw1
  generalize w1.heap.size = wb at hn ⊢
  obtain ⟨hS, hw1, g0, t0, t1, hgl, hwl, hz⟩ := hn
  go_wp2_with fail
  refine (HMR.out _ bl).mono ?_
  rintro e w11 ⟨v, nn, x, hv, rfl, hb⟩
  first | have hn := hS.on hb | have hn := hS.on1 hb | have hn := hS.on2 hb
  clear hS hw1 g0 t0 t1 hgl hwl hz
  obtain ⟨hS, hw1, g0, t0, t1, hgl, hwl, hz⟩ := hn
  rw [outV_eq]
  clear hb
  rcases hv with ⟨h1, _⟩ | ⟨_, h1, _⟩ | ⟨_, _, _, _, h1, h2, h3⟩ | ⟨_, h1, h2, h3, h4, h5⟩
  · exact absurd HL0.out h1
  · omega
  focus
    subst h1 h2 h3
  rotate_left
  focus
    subst h3 h4 h5
    have HCD := Lib.hid (HCD0.out (by omega))
    rw [<- HVB.out, <- HVN.out]
    have hwm : IntKind.i64.wrap (16 * (C : Int)) = 16 * (C : Int) := IntWalk.i64_in _ (by omega)
    have hwm2 : IntKind.i64.wrap (16 * (C : Int) + 16) = 16 * (C : Int) + 16 := IntWalk.i64_in _ (by omega)
  all_goals (
    go_wp2_with fail
    refine (HKE.out _ bl).mono ?_
    rintro e w12 ⟨hb, hq⟩
    first | have hn := hS.on hb | have hn := hS.on1 hb | have hn := hS.on2 hb
    clear hS hw1 g0 t0 t1 hgl hwl hz
    obtain ⟨hS, hw1, g0, t0, t1, hgl, hwl, hz⟩ := hn
    rcases hq with ⟨hk, rfl⟩ | ⟨hk, V, c, rows, rfl, hF⟩
    focus
      have hxk : (kerR g == 0) = false := by rw [beq_eq_false_iff_ne]; exact hk
      generalize kerR g = kr at hxk
      clear hk hb
    rotate_left
    focus
      have hH : GrIs (w12.alloc (.cells #[.slice V g.length c] 24)) (w12.alloc (.cells #[.slice V g.length c] 24)).heap.size (kerG g) V c rows := hF.is.grow ((Below.refl _ w12).alloc (Nat.le_refl _) (.cells #[.slice V g.length c] 24))
      have hlen : (kerG g).length = g.length := kerG_len g
      have hhx : Blk (w12.alloc (.cells #[.slice V g.length c] 24)) w12.heap.size 24 #[.slice V g.length c] := blk_at rfl
      have hck := gcheck_any hH
      rw [hlen] at hck
      have HH := Lib.hid hH
      have HCK := Lib.hid hck
      clear hF hH hck hb hk hlen
      go_wp2_with fail
      refine (HCK.out).mono ?_
      rintro e w13 ⟨rfl, hb⟩
      first | have hn := hS.on hb | have hn := hS.on1 hb | have hn := hS.on2 hb
      clear hS hw1 g0 t0 t1 hgl hwl hz
      obtain ⟨hS, hw1, g0, t0, t1, hgl, hwl, hz⟩ := hn
      replace hhx := hhx.below hb hhx.lt
      have h0 : w13.cell? ⟨w12.heap.size, 0, none⟩ = some (.slice V g.length c) := hhx.cell 0
      have hhl := hhx.lt
      have hH2 := HH.out.grow hb
      clear hb HCK
      by_cases hc : checkG (kerG g) = 0
      focus
        have hkr := HKR.out hc _ _ _ _ hH2
        rw [hc]
        clear hH2 hc
        have HKN := Lib.hid hkr
        clear hkr
        go_wp2_with fail
        refine (HKN.out).mono ?_
        rintro e w14 ⟨V2, n2, c2, rfl, hb⟩
        first | have hn := hS.on hb | have hn := hS.on1 hb | have hn := hS.on2 hb
        clear hS hw1 g0 t0 t1 hgl hwl hz
        obtain ⟨hS, hw1, g0, t0, t1, hgl, hwl, hz⟩ := hn
        clear hb HKN h0 hhl hhx
      rotate_left
      focus
        have hxk : (checkG (kerG g) == 0) = false := by rw [beq_eq_false_iff_ne]; exact hc
        generalize checkG (kerG g) = kr at hxk
        clear hc hH2 hhx
    all_goals (
      go_wp2_with fail
      refine (HSI.out _ bl).mono ?_
      rintro e w15 ⟨hb, hq⟩
      first | have hn := hS.on hb | have hn := hS.on1 hb | have hn := hS.on2 hb
      clear hS hw1 g0 t0 t1 hgl hwl hz
      obtain ⟨hS, hw1, g0, t0, t1, hgl, hwl, hz⟩ := hn
      rcases hq with ⟨hbad, _⟩ | ⟨_, V, c, rows, rfl, hF⟩
      · exact absurd HW0.out hbad
      have hH : GrIs (w15.alloc (.cells #[.slice V g.length c] 24)) (w15.alloc (.cells #[.slice V g.length c] 24)).heap.size (simpG g) V c rows := hF.is.grow ((Below.refl _ w15).alloc (Nat.le_refl _) (.cells #[.slice V g.length c] 24))
      have hrs := HSR.out _ _ _ _ hH
      clear hb hF hH
      have HRS := Lib.hid hrs
      clear hrs
      go_wp2_with fail
      refine (HRS.out).mono ?_
      rintro e w16 ⟨V2, n2, c2, rfl, hb⟩
      first | have hn := hS.on hb | have hn := hS.on1 hb | have hn := hS.on2 hb
      clear hS hw1 g0 t0 t1 hgl hwl hz
      obtain ⟨hS, hw1, g0, t0, t1, hgl, hwl, hz⟩ := hn
      clear hb HRS
      go_wp2_with fail
      refine (HMK.out _ bl).mono ?_
      rintro e w17 ⟨hb, hq⟩
      first | have hn := hS.on hb | have hn := hS.on1 hb | have hn := hS.on2 hb
      clear hS hw1 g0 t0 t1 hgl hwl hz
      obtain ⟨hS, hw1, g0, t0, t1, hgl, hwl, hz⟩ := hn
      rcases hq with ⟨hne, rfl⟩ | ⟨hmz, V3, c3, rfl, ho3⟩
      · have hx0 : (makR g != 0) = true := by rw [bne_iff_ne]; exact hne
        generalize makR g = y at hx0
        clear hne hb
        clear hS
        go_wp2
        go_ret
        exact ⟨by simp, bl⟩
      first
      | (
        have hrun := HCD.out hmz V3 c3 _ _ ho3
        clear hmz ho3 hb
        generalize (codeG g).length = cl at hrun ⊢
        have HRUN := Lib.hid hrun
        clear hrun
        go_wp2_with fail
        refine (HRUN.out).mono ?_
        rintro e w18 ⟨rfl, hb⟩
        first | have hn := hS.on hb | have hn := hS.on1 hb | have hn := hS.on2 hb
        clear hS hw1 g0 t0 t1 hgl hwl hz
        obtain ⟨hS, hw1, g0, t0, t1, hgl, hwl, hz⟩ := hn
        clear hb HRUN
        clear hS
        go_wp2
        go_ret
        exact ⟨by simp, bl⟩
        )
      | (
        clear hmz ho3 hb
        generalize (codeG g).length = cl
        clear hS
        go_wp2
        go_ret
        exact ⟨by simp, bl⟩
        )
      )
    )
end Go.Proofs.Ytkmcnekjimobhaa
namespace Go.Proofs.Ytkmcnekjimobhaa.topRoads
set_option maxRecDepth 100000
open Go.ChangeShapes Go.WideShapes Go.ChangeAt Go.RowKit
open Go.ChangeMaps (open_string shut_string)
set_option linter.unusedVariables false
theorem own : ownKnob Try.prog.godebug = none := by kernel_rfl
theorem laidOut : laidOutB Try.prog = true := by kernel_rfl
theorem lifted (os : Os) (started : os.Started) (H : Type) (enc : TypeId × Value -> H) :
    ReturnsInHanded {} Try.checked os 7 .any (Rows.topRoadsSpec.pre6 enc Try.prog Try.f7 Rows.topRoadsRow.domain false) (Rows.topRoadsSpec.post enc Try.prog Try.f7 false true false false) := by
  refine returnsInHanded_of_change_sized (C := Try.checked) own started (by kernel_rfl) Try.func7
    (ChangeSpec.witness6 (enc := enc) (C := Try.checked) false ⟨#[], #[.agg #[.slice none 0 0], .string ByteArray.empty], []⟩ 8 (by kernel_rfl) (by kernel_rfl) (by kernel_rfl) (by kernel_rfl)) ?_
  intro W base args ds gs before hval0 hW hcnd hsz0 _
  have hval : ∀ (j : Nat) t v, Try.f7.params[j]? = some t -> args[j]? = some v -> Value.okWide Try.prog W .any base t v := hval0
  have hsz : (DataW.weightsEach Try.prog (Try.f7.params.toList ++ Rows.topRoadsSpec.plain.varTypes Try.prog) (ds ++ gs)).all (· <= reachBytes) = true := hsz0
  have hW' := hW
  obtain ⟨p, q, hA0, hV, rfl, hfz, hnd⟩ := hW
  have hA : DataW.TrodAll enc Try.prog W 0 (fun _ => true) true Try.f7.params.toList args.toList ds p := hA0
  rw [Try.params7] at hA hval hsz
  obtain ⟨v0, vs0, d0, ds0, p0, q0, hargs, rfl, rfl, h0, r0⟩ := trodAll_cons hA
  obtain ⟨v1, vs1, d1, ds1, p1, q1, rfl, rfl, rfl, h1, r1⟩ := trodAll_cons r0
  obtain ⟨rfl, rfl, rfl⟩ := trodAll_nil r1
  obtain rfl : args = #[v0, v1] := by cases args; simp_all
  obtain ⟨rfl, rfl⟩ := trodVars_none hV
  have k0 := h0
  have lt0 : ∀ x ∈ p0, x.block < W.heap.size := by obtain ⟨m, hm⟩ := k0; exact DataW.trod_lt m _ _ _ hm
  have k1 := h1
  have lt1 : ∀ x ∈ p1, x.block < W.heap.size := by obtain ⟨m, hm⟩ := k1; exact DataW.trod_lt m _ _ _ hm
  obtain ⟨g0, A0, cp0, row0, rfl, w0, u0⟩ := open_gram (by obtain ⟨cs, e1, e2⟩ := okWide_struct Try.underlying24 (hval 0 24 v0 rfl rfl); exact ⟨cs, e1, e2⟩) h0
  obtain ⟨s1, rfl, rfl, rfl, n1⟩ := open_string Try.underlying9 (hval 1 9 v1 rfl rfl) h1
  have w1 : s1.size <= 140737488351232 := by have := sized_string hsz (j := 1) (t := 9) rfl rfl; simpa [reachBytes] using this
  clear hA0 hval0
  refine (walk_TopRoads s1 W w0 u0).mono fun e W' ⟨he, bel⟩ => ?_
  subst he
  exact ⟨_, rfl, _, _, _, [], _, [], hW', trodAll_mk1 (shut_bool Try.underlying4 _), (trodAll_cons_mk (Below.trod laidOut (by kernel_rfl) (of_decide_eq_true (by kernel_rfl)) k0 bel lt0) (trodAll_cons_mk (Below.trod laidOut (by kernel_rfl) (of_decide_eq_true (by kernel_rfl)) k1 bel lt1) trodAll_mk0)), rfl, bel.frame _, fun h => by cases h⟩
theorem over : Rows.topRoadsRow.holds Try.pinned (OpenSpec.ofChange Rows.topRoadsSpec) :=
  OpenClaim.holds_of_wide 7 Try.f7 rfl rfl rfl rfl rfl rfl rfl ⟨rfl, rfl, rfl, rfl, rfl⟩ rfl rfl rfl rfl rfl (by kernel_rfl) Try.func7 (by kernel_rfl)
    (of_decide_eq_true (by kernel_rfl)) (by unfold Func.isWrapper; first | (rw [if_pos (by decide +kernel)]; kernel_rfl) | (rw [if_neg (by decide +kernel)]; exact ⟨rfl, rfl⟩))
    (fun os started H enc _ => lifted os started H enc)
theorem proved : Rows.TopRoadsSaid := over
#print axioms proved
end Go.Proofs.Ytkmcnekjimobhaa.topRoads
