/- simp.Simp. -/
import Derived.Test.YtefechceoeeonaaSwF
import Derived.Test.YtefechceoeeonaaSiS
import Derived.Test.YtefechceoeeonaaKnC
namespace Go.Proofs.Ytefechceoeeonaa
open Go.RowKit Go.Maps

def idE (x : Ex) : Ex := x
def simF (G : List Rl) (e : Ex) : Ex := (simE G (factsG G) e).1
theorem simG_map (G : List Rl) : (simG G).1 = G.map fun r => (r.1, simF G r.2) := rfl
/-- what simp.Simp leaves -/
def SimpQ (g : List Rl) (w : World) (e : Ending) (w' : World) : Prop := Below w.heap.size w w' ∧
  (((wellG g).2 ≠ 0 ∧ e = .returned (.tuple #[.agg #[.slice none 0 0], .int .i64 (wellG g).2])) ∨
   ((wellG g).2 = 0 ∧ ∃ V c rows, e = .returned (.tuple #[.agg #[.slice V g.length c], .int .i64 0]) ∧ GrF (fun b => w.heap.size ≤ b ∧ b < w'.heap.size) w'.heap.size w' (simpG g) V c rows))
theorem k8_rt {g : List Rl} {e : Ex} (h : Rt g e) : K8 e := by
  induction h with
  | mk k a b c d t ks hf _ _ ih => exact .mk k a b c d t ks (fit_len hf) ih
theorem Rus.but {base : Nat} {W W' : World} {g : List Rl} {V : Option Addr} {c : Nat} {rows : Nat → List Value} (h : Rus base W g V c rows) {mb : Nat} (hm : mb < base) (hg : W.grownBy W' (some mb)) : Rus base W' g V c rows :=
  ⟨own_far h.own hg hm, h.small, fun i e he => ((h.body i e he).keep (W' := W') fun p hp => World.cell?_of_block (hg.block p.block hp.2.1 (by intro e; injection e with e; have := hp.1; omega))).mono (fun _ hb' => ⟨hb'.1, Nat.lt_of_lt_of_le hb'.2.1 hg.size, hb'.2.2⟩) hg.size⟩
/-- while rules are made simpler -/
structure SgI (f : Ex → Ex) (G : List Rl) (mb xb : Nat) (mc : Bool → Array Value) (w : World) (V : Option Addr) (c : Nat) (rows : Nat → List Value) (j : Nat) (m : Bool) (W : World) : Prop where
  bel : Below w.heap.size w W
  mlo : w.heap.size ≤ mb
  xlo : mb < xb
  mak : Blk W mb 89 (mc m)
  out : Blk W xb 24 #[.slice V j c]
  rus : Rus (xb + 1) W ((G.take j).map fun r => (r.1, f r.2)) V c rows
section
variable {f : Ex → Ex} {G : List Rl} {mb xb : Nat} {mc : Bool → Array Value} {w : World} {V : Option Addr} {c : Nat} {rows : Nat → List Value} {j : Nat} {m m' : Bool} {W W' : World}
theorem SgI.below (h : SgI f G mb xb mc w V c rows j m W) (hb : Below W.heap.size W W') : SgI f G mb xb mc w V c rows j m W' :=
  ⟨h.bel.trans (hb.mono h.bel.size), h.mlo, h.xlo, h.mak.below hb h.mak.lt, h.out.below hb h.out.lt, h.rus.below hb⟩
theorem SgI.call (h : SgI f G mb xb mc w V c rows j m W) (hg : W.grownBy W' (some mb)) (hm : Blk W' mb 89 (mc m')) : SgI f G mb xb mc w V c rows j m' W' :=
  ⟨h.bel.grown hg h.bel.size fun k hk => by injection hk with hk; have := h.mlo; omega, h.mlo, h.xlo, hm, h.out.grown hg (fun e => by injection e with e; have := h.xlo; omega), h.rus.but (by have := h.xlo; omega) hg⟩
theorem SgI.push {V' : Option Addr} {c' lo : Nat} {r : Rl} {rc : List Value} (h : SgI f G mb xb mc w V c rows j m W) (he : G[j]? = some r) (hlo : xb + 1 ≤ lo) (hold : ∀ q, (Value.slice V j c).ownBlock = some q → q < lo) (hn : r.1.size ≤ maxLen) (hE : ExF (fun b => lo ≤ b ∧ b < W.heap.size) W.heap.size W (f r.2) rc)
    (hown : W'.ownsRow (xb + 1) 44 8 (.slice V' (j + 1) c') (j + 1) (ruF ((G.take j).map fun r => (r.1, f r.2)) rows 0 ++ (.string r.1 :: rc))) (hg : W.grownBy W' (Value.slice V j c).ownBlock)
    (hat : (Value.slice V' (j + 1) c').ownBlock = (Value.slice V j c).ownBlock ∨ (Value.slice V' (j + 1) c').ownBlock = some W.heap.size) :
    SgI f G mb xb mc w V' c' (fun i => if i = j then rc else rows i) (j + 1) m (W'.setCell ⟨xb, 0, none⟩ (.slice V' (j + 1) c')) := by
  have hjl := getElem?_lt he
  have hm1 := h.mlo
  have hx1 := h.xlo
  have hl : ((G.take j).map fun r => (r.1, f r.2)).length = j := by simp; omega
  have hne : ∀ b, b < xb + 1 → some b ≠ (Value.slice V j c).ownBlock := fun b hb e => by
    have := h.rus.own.lt b (by rw [hl]; exact e.symm)
    omega
  have hlow : Below w.heap.size W W' := ⟨hg.os, hg.tape, hg.output, hg.size, fun q hq => hg.block q (by have := h.bel.size; omega) (hne q (by omega))⟩
  have hk := h.rus.push (V' := V') (c' := c') (lo := lo) (r := (r.1, f r.2)) hlo (by rw [hl]; exact hold) hn hE (by rw [hl]; exact hown) (by rw [hl]; exact hg) (by rw [hl]; exact hat)
  rw [hl] at hk
  refine ⟨(h.bel.trans hlow).setCell (by simp; omega) _, hm1, hx1, ((h.mak.grown hg (hne _ (by omega))).far (by simp; omega) _), ((h.out.grown hg (hne _ (by omega))).set_ 0 _), ?_⟩
  rw [take_succ_of he, List.map_append, List.map_cons, List.map_nil]
  exact hk.far (by omega) _ _
end

set_option maxRecDepth 100000 in
set_option maxHeartbeats 8000000 in
theorem simp_any {g : List Rl} {A : Option Addr} {cp : Nat} {row : Nat → List Value} {w : World} (h : GrIs w w.heap.size g A cp row) : Calls Try.prog 19 #[.agg #[.slice A g.length cp]] w (SimpQ g w) := by
  have hwl := fun W (hW : Below w.heap.size w W) => well_any (h.grow hW)
  unfold WellQ at hwl
  have HWL := Lib.hid hwl
  have hQ1 : (wellG g).2 ≠ 0 → ∀ w', Below w.heap.size w w' → SimpQ g w (.returned (.tuple #[.agg #[.slice none 0 0], .int .i64 (wellG g).2])) w' := fun h0 w' hb => ⟨hb, .inl ⟨h0, rfl⟩⟩
  have hQ2 : (wellG g).2 = 0 → ∀ V c rows w', Below w.heap.size w w' → GrF (fun b => w.heap.size ≤ b ∧ b < w'.heap.size) w'.heap.size w' (simpG g) V c rows → SimpQ g w (.returned (.tuple #[.agg #[.slice V g.length c], .int .i64 0])) w' := fun h0 V c rows w' hb hG => ⟨hb, .inr ⟨h0, V, c, rows, rfl, hG⟩⟩
  by_cases h0 : (wellG g).2 = 0
  case neg =>
    have HQ := Lib.hid (hQ1 h0)
    have n0 : ((wellG g).2 != 0) = true := by rw [bne_iff_ne]; exact h0
    generalize SimpQ g w = Q at HQ ⊢
    generalize (wellG g).2 = x at HWL HQ n0
    generalize (wellG g).1 = y at HWL
    clear hQ1 hQ2 hwl h h0
    go_enter Try.func19, Try.ntmps19
    go_wp2_with fail
    refine (HWL.out _ (by repeat (first | exact Below.refl _ _ | assumption | refine Below.drew ?_ | refine below_drewN ?_ _ | refine Below.alloc ?_ (by first | omega | (simp; omega) | simp) _ | refine Below.setCell ?_ (by first | omega | (simp; omega) | simp) _))).mono ?_
    rintro e w1 ⟨rfl, hb1⟩
    have hrs1 : Blk w1 (w.heap.size + 1) 24 #[.slice none 0 0] := (blk_at (by simp)).below hb1 (by simp)
    have hw1 : Below w.heap.size w w1 := Below.trans (by repeat (first | exact Below.refl _ _ | assumption | refine Below.drew ?_ | refine below_drewN ?_ _ | refine Below.alloc ?_ (by first | omega | (simp; omega) | simp) _ | refine Below.setCell ?_ (by first | omega | (simp; omega) | simp) _)) (hb1.mono (by first | omega | (simp; omega) | simp))
    have z0 := hrs1.cell 0
    have f0 := hrs1.frozen 0
    simp at z0
    have q0 : (w1.setCell ⟨w.heap.size + 1, 0, none⟩ (.slice none 0 0)).cell? ⟨w.heap.size + 1, 0, none⟩ = some (.slice none 0 0) := (hrs1.set_ 0 _).cell 0
    clear hb1
    go_wp2
    exact bodyPost_ret (v := .tuple #[.agg #[.slice none 0 0], .int .i64 x]) (by simp [results, Try.results19, go_sem, q0]) rfl (HQ.out _ (hw1.setCell (by simp) _))
  have W0 := well_of h0
  have HQ := Lib.hid (hQ2 h0)
  rw [h0] at HWL
  generalize SimpQ g w = Q at HQ ⊢
  generalize (wellG g).1 = y at HWL
  have h10 := W0.right.ten
  have hcp : ∀ (j : Nat) (nm : ByteArray) (k' a' b' c' d' : Int) (t' : ByteArray) (ks' : List Ex) (A' : Option Addr) (cp' : Nat) (W : World), Below w.heap.size w W → g[j]? = some (nm, .mk k' a' b' c' d' t' ks') → ExIs w w.heap.size (.mk k' a' b' c' d' t' ks') (exCells k' a' b' c' d' t' A' ks'.length cp') →
      Calls Try.prog 50 #[.agg #[.int .i64 k', .int .u64 a', .int .u64 b', .int .u64 c', .int .u64 d', .string t', .slice A' ks'.length cp']] W (MadeQ (idE (.mk k' a' b' c' d' t' ks')) W) := fun j nm k' a' b' c' d' t' ks' A' cp' W hW hej hx =>
    copy_any _ (k8_rt (W0.right.rt _ (List.mem_of_getElem? hej))) _ W (hx.grow hW)
  have HKO := Lib.hid hcp
  have HG := Lib.hid h
  have HW0 := Lib.hid W0
  obtain ⟨i0, hi0, hz0, hz1, hz2⟩ := info_parts rule_info
  have hgcap := h.cap
  unfold maxLen at hgcap
  clear hQ1 hQ2 hwl h h0 hcp W0
  go_enter Try.func19, Try.ntmps19
  go_wp2_with fail
  refine (HWL.out _ (by repeat (first | exact Below.refl _ _ | assumption | refine Below.drew ?_ | refine below_drewN ?_ _ | refine Below.alloc ?_ (by first | omega | (simp; omega) | simp) _ | refine Below.setCell ?_ (by first | omega | (simp; omega) | simp) _))).mono ?_
  rintro e w1 ⟨rfl, hb1⟩
  have hgx1 : Blk w1 w.heap.size 24 #[.slice A g.length cp] := ((blk_at rfl).alloc _).below hb1 (by first | omega | (simp; omega) | simp)
  have hrs1 : Blk w1 (w.heap.size + 1) 24 #[.slice none 0 0] := (blk_at (by simp)).below hb1 (by simp)
  have hw1 : Below w.heap.size w w1 := Below.trans (by repeat (first | exact Below.refl _ _ | assumption | refine Below.drew ?_ | refine below_drewN ?_ _ | refine Below.alloc ?_ (by first | omega | (simp; omega) | simp) _ | refine Below.setCell ?_ (by first | omega | (simp; omega) | simp) _)) (hb1.mono (by first | omega | (simp; omega) | simp))
  have g0 := hgx1.cell 0
  simp at g0
  have hs1 : w.heap.size + 1 < w1.heap.size := hrs1.lt
  have hgl1 := hgx1.lt
  clear hb1
  have HST : Hid (KnI idE g w w1.heap.size none 0 (fun _ => []) 0 (w1.alloc (.cells #[.slice none 0 0] 24))) :=
    ⟨hw1.alloc (by omega) _, hrs1.alloc _, by omega, blk_at rfl, Rus.nil _ _⟩
  clear hgx1
  go_wp2
  go_loopw [27] (fun i wr => ∃ j : Nat, j ≤ g.length ∧ i = .int .i64 j ∧ ∃ V c rows, KnI idE g w w1.heap.size V c rows j wr) (fun i _ => g.length - (intOf i).toNat)
  case atStart => exact ⟨0, by omega, rfl, _, _, _, HST.out⟩
  case round =>
    clear HST
    obtain ⟨j, hj, rfl, V, c, rows, hI⟩ := hrel
    have hbw := hI.bel
    have hnl := hI.out.lt
    by_cases hjn : j < g.length
    · obtain ⟨ad, nm, k', a', b', c', d', t', ks', A', cp', rfl, hab, hej, hnm, hE, hS⟩ := HG.out.rule hjn
      have hcc : Eight wr (ad.add (j * 8)) nm k' a' b' c' d' t' A' ks'.length cp' :=
        have hk := fun (q : Addr) (hq : q.block = (ad.add (j * 8)).block) => hbw.cell (p := q) (by rw [hq, add_block]; omega)
        ⟨(hk _ rfl).trans hS.c0, (hk ⟨_, _, none⟩ rfl).trans hS.c1, (hk ⟨_, _, none⟩ rfl).trans hS.c2, (hk ⟨_, _, none⟩ rfl).trans hS.c3, (hk ⟨_, _, none⟩ rfl).trans hS.c4, (hk ⟨_, _, none⟩ rfl).trans hS.c5, (hk ⟨_, _, none⟩ rfl).trans hS.c6, (hk ⟨_, _, none⟩ rfl).trans hS.c7⟩
      obtain ⟨y0, y1, y2, y3, y4, y5, y6, y7⟩ := hcc
      have had1 : ad.block < wr.heap.size := by omega
      have hjl : (j : Int) < (g.length : Int) := by omega
      have hc1 := fun W hW => HKO.out j nm k' a' b' c' d' t' ks' A' cp' W hW hej hE
      have HC1 := Lib.hid hc1
      have HEJ := Lib.hid hej
      have HNM := Lib.hid hnm
      clear hc1 hS hE hej hnm
      have hC0 : RuC w1.heap.size wr.heap.size #[.slice V j c] #[.string nm, .int .i64 k', .int .u64 a', .int .u64 b', .int .u64 c', .int .u64 d', .string t', .slice A' ks'.length cp'] (wr.alloc (.cells #[.string nm, .int .i64 k', .int .u64 a', .int .u64 b', .int .u64 c', .int .u64 d', .string t', .slice A' ks'.length cp'] 44)) := ⟨hI.out.alloc _, blk_at rfl⟩
      have hI1 := hI.below ((Below.refl _ wr).alloc (Nat.le_refl _) (.cells #[.string nm, .int .i64 k', .int .u64 a', .int .u64 b', .int .u64 c', .int .u64 d', .string t', .slice A' ks'.length cp'] 44))
      have hll : ((g.take j).map fun r => (r.1, idE r.2)).length = j := by simp; omega
      have hold : ∀ q, (Value.slice V j c).ownBlock = some q → q < wr.heap.size := fun q hq => hI.rus.old q (by rw [hll]; exact hq)
      have hkne : some wr.heap.size ≠ (Value.slice V j c).ownBlock := fun e => by have := hold _ e.symm; omega
      have hone : some (w1.heap.size) ≠ (Value.slice V j c).ownBlock := fun e => by have h1 := hI.rus.own.lt (w1.heap.size) (by rw [hll]; exact e.symm); omega
      have hbase1 : w1.heap.size + 1 ≤ (wr.alloc (.cells #[.string nm, .int .i64 k', .int .u64 a', .int .u64 b', .int .u64 c', .int .u64 d', .string t', .slice A' ks'.length cp'] 44)).heap.size := by simp; omega
      have hold1 : ∀ q, (Value.slice V j c).ownBlock = some q → q < (wr.alloc (.cells #[.string nm, .int .i64 k', .int .u64 a', .int .u64 b', .int .u64 c', .int .u64 d', .string t', .slice A' ks'.length cp'] 44)).heap.size := fun q hq => by have := hold q hq; simp; omega
      clear hold hI
      go_upto_region 8 with fail
      generalize (wr.alloc (.cells #[.string nm, .int .i64 k', .int .u64 a', .int .u64 b', .int .u64 c', .int .u64 d', .string t', .slice A' ks'.length cp'] 44)) = w11 at hC0 hI1 hbase1 hold1 ⊢
      generalize wr.heap.size = kb at hC0 hkne ⊢
      clear y0 y1 y2 y3 y4 y5 y6 y7 had1 hbw
      refine wp_region_l (RuC w1.heap.size kb #[.slice V j c] #[.string nm, .int .i64 k', .int .u64 a', .int .u64 b', .int .u64 c', .int .u64 d', .string t', .slice A' ks'.length cp']) (· == 11) (by kernel_rfl) ?_
      have hC := hC0.below (Below.refl _ _).drew
      have hI := hI1.below (Below.refl _ _).drew
      have hbd : (w11.drew).heap.size = w11.heap.size := rfl
      rw [← hbd] at hbase1 hold1
      generalize w11.drew = wd at hC hI hbase1 hold1 ⊢
      clear hC0 hI1 hbd
      apply L.rd (i := 0) rfl (by kernel_rfl) hC rfl
      · intro W hW
        skip
        unfold readW
        go_simp
        first | rfl | exact ⟨rfl, rfl⟩
      first | simp only [Act.put, List.setIfInBounds_toArray, List.set_cons_succ, List.set_cons_zero] | skip
      apply L.rd (i := 1) rfl (by kernel_rfl) hC rfl
      · intro W hW
        have n0 := hW.out.cell 0
        unfold readW
        go_simp
        first | rfl | exact ⟨rfl, rfl⟩
      first | simp only [Act.put, List.setIfInBounds_toArray, List.set_cons_succ, List.set_cons_zero] | skip
      apply L.rd (i := 2) rfl (by kernel_rfl) hC rfl
      · intro W hW
        skip
        unfold readW
        go_simp
        first | rfl | exact ⟨rfl, rfl⟩
      first | simp only [Act.put, List.setIfInBounds_toArray, List.set_cons_succ, List.set_cons_zero] | skip
      apply L.rd (i := 3) rfl (by kernel_rfl) hC rfl
      · intro W hW
        have n0 := hW.rule.cell 0
        unfold readW
        go_simp
        first | rfl | exact ⟨rfl, rfl⟩
      first | simp only [Act.put, List.setIfInBounds_toArray, List.set_cons_succ, List.set_cons_zero] | skip
      apply L.rd (i := 4) rfl (by kernel_rfl) hC rfl
      · intro W hW
        skip
        unfold readW
        go_simp
        first | rfl | exact ⟨rfl, rfl⟩
      first | simp only [Act.put, List.setIfInBounds_toArray, List.set_cons_succ, List.set_cons_zero] | skip
      apply L.rd (i := 5) rfl (by kernel_rfl) hC rfl
      · intro W hW
        have r1 := hW.rule.cell 1; have r2 := hW.rule.cell 2; have r3 := hW.rule.cell 3; have r4 := hW.rule.cell 4; have r5 := hW.rule.cell 5; have r6 := hW.rule.cell 6; have r7 := hW.rule.cell 7
        unfold readW
        go_simp
        first | rfl | exact ⟨rfl, rfl⟩
      first | simp only [Act.put, List.setIfInBounds_toArray, List.set_cons_succ, List.set_cons_zero] | skip
      apply L.one (i := 6) rfl (by kernel_rfl) rfl
      unfold stepT
      go_simp
      go_at_call 50
      refine (HC1.out _ hI.bel).mono ?_
      rintro e wn ⟨⟨rc, rfl, hF⟩, hbn⟩
      have hC := hC.below hbn
      have hI := hI.below hbn
      have hbase2 := Nat.le_trans hbase1 hbn.size
      clear hbn
      have hrc := ex_one' hF.is
      obtain ⟨k1, a1, b1, c1, d1, t1, A1, n1, cp1, rfl⟩ := Ex.parts _ hF.is
      refine ⟨_, rfl, hC, ?_⟩
      first | simp only [Act.put, List.setIfInBounds_toArray, List.set_cons_succ, List.set_cons_zero] | skip
      apply L.rd (i := 7) rfl (by kernel_rfl) hC rfl
      · intro W hW
        skip
        unfold readW
        go_simp
        first | rfl | exact ⟨rfl, rfl⟩
      first | simp only [Act.put, List.setIfInBounds_toArray, List.set_cons_succ, List.set_cons_zero] | skip
      apply L.one (i := 8) rfl (by kernel_rfl) rfl
      unfold stepT
      go_simp
      have hF1 := (hF.keep (W' := wn.alloc (.cells #[.string nm, .int .i64 k1, .int .u64 a1, .int .u64 b1, .int .u64 c1, .int .u64 d1, .string t1, .slice A1 n1 cp1] 44)) fun p hp => World.cell?_alloc_lt wn _ p hp.2).mono (S' := fun b => wd.heap.size ≤ b ∧ b < (wn.alloc (.cells #[.string nm, .int .i64 k1, .int .u64 a1, .int .u64 b1, .int .u64 c1, .int .u64 d1, .string t1, .slice A1 n1 cp1] 44)).heap.size) (fun b hb => ⟨hb.1, by simp; omega⟩) (hi' := (wn.alloc (.cells #[.string nm, .int .i64 k1, .int .u64 a1, .int .u64 b1, .int .u64 c1, .int .u64 d1, .string t1, .slice A1 n1 cp1] 44)).heap.size) (by simp)
      have hkb : Blk (wn.alloc (.cells #[.string nm, .int .i64 k1, .int .u64 a1, .int .u64 b1, .int .u64 c1, .int .u64 d1, .string t1, .slice A1 n1 cp1] 44)) wn.heap.size 44 #[.string nm, .int .i64 k1, .int .u64 a1, .int .u64 b1, .int .u64 c1, .int .u64 d1, .string t1, .slice A1 n1 cp1] := blk_at rfl
      have hC := hC.below ((Below.refl _ _).alloc (Nat.le_refl _) (.cells #[.string nm, .int .i64 k1, .int .u64 a1, .int .u64 b1, .int .u64 c1, .int .u64 d1, .string t1, .slice A1 n1 cp1] 44))
      have hI := hI.below ((Below.refl _ _).alloc (Nat.le_refl _) (.cells #[.string nm, .int .i64 k1, .int .u64 a1, .int .u64 b1, .int .u64 c1, .int .u64 d1, .string t1, .slice A1 n1 cp1] 44))
      have hbase3 : w1.heap.size + 1 ≤ (wn.alloc (.cells #[.string nm, .int .i64 k1, .int .u64 a1, .int .u64 b1, .int .u64 c1, .int .u64 d1, .string t1, .slice A1 n1 cp1] 44)).heap.size := by simp; omega
      generalize (wn.alloc (.cells #[.string nm, .int .i64 k1, .int .u64 a1, .int .u64 b1, .int .u64 c1, .int .u64 d1, .string t1, .slice A1 n1 cp1] 44)) = wk at hC hI hkb hF1 hbase3 ⊢
      generalize wn.heap.size = rb at hkb ⊢
      clear hF hbase2
      refine ⟨hC, ?_⟩
      apply L.one (i := 9) rfl (by kernel_rfl) rfl
      refine stepT_append_at (.tmp 32) (.tmp 39) 22 rfl (w1.heap.size + 1) 44 i0 _ 8 96 Try.underlying22 hi0 hz0 hz1 hz2 rfl (by decide) (.slice V j c) j (ruF ((g.take j).map fun r => (r.1, idE r.2)) rows 0) (by simp [Act.eval]) (by have h1 := hI.rus.own; rw [hll] at h1; exact h1) ⟨rb, 0, none⟩ 1 1 (.string nm :: [.int .i64 k1, .int .u64 a1, .int .u64 b1, .int .u64 c1, .int .u64 d1, .string t1, .slice A1 n1 cp1]) (by simp [Act.eval]) rfl (fun i u hu => by rw [cell_add]; exact (hkb.cell i).trans (by rw [List.getElem?_toArray]; exact hu)) (fun u hu => by rcases List.mem_cons.1 hu with rfl | hu; rfl; exact hrc u hu) (by unfold maxLen; omega) (by omega) hbase3 ?_
      intro v' w3 hown hgr hat
      obtain ⟨V3, c3, rfl⟩ := own_form hown
      have hI3 := hI.push HEJ.out hbase1 hold1 HNM.out hF1 hown hgr hat
      have hC := hC.grown hgr hone hkne
      refine ⟨fun _ => hC, ?_⟩
      first | simp only [Act.put, List.setIfInBounds_toArray, List.set_cons_succ, List.set_cons_zero] | skip
      apply L.rd (i := 10) rfl (by kernel_rfl) hC rfl
      · intro W hW
        skip
        unfold readW
        go_simp
        first | rfl | exact ⟨rfl, rfl⟩
      first | simp only [Act.put, List.setIfInBounds_toArray, List.set_cons_succ, List.set_cons_zero] | skip
      have n0 := hC.out.cell 0
      have f0 := hC.out.frozen 0
      apply L.one (i := 11) rfl (by kernel_rfl) rfl
      unfold stepT
      go_simp
      refine L.done (by kernel_rfl) ?_
      have HI3 := Lib.hid hI3
      clear hI hI3 hC hown hgr hkb n0 f0 hat hF1 hold1 hbase1 hbase3 hkne hone hll
      go_wp2
      go_roundw
      case rel => exact ⟨j + 1, by omega, by go_num, _, _, _, HI3.out⟩
      case measure => simp [intOf]; omega
    · obtain rfl : j = g.length := by omega
      have hgr := hI.rus.gr
      rw [List.take_length] at hgr
      have hid : (g.map fun r => (r.1, idE r.2)) = g := by
        unfold idE
        exact List.map_id' g
      rw [hid] at hgr
      have hob := hI.out
      have hrs := hI.res
      have hs1' := hI.nlo
      generalize w1.heap.size = nb at hgr hob hs1' ⊢
      have HIN : Hid (Below w.heap.size w wr ∧ Blk wr (w.heap.size + 1) 24 #[.slice none 0 0] ∧ Blk wr nb 24 #[.slice V g.length c] ∧ GrF (fun b => nb + 1 ≤ b ∧ b < wr.heap.size) wr.heap.size wr g V c rows) := ⟨hbw, hrs, hob, hgr⟩
      clear hI hbw hnl hgr hid hob hrs HWL HKO HG g0 hw1 hrs1 hs1 hgl1 hjn hj
      rename World => ws
      go_wp2
      go_loopg [9] (nodesG g + 1) (fun n _ wr => ∃ (G : List Rl) (GV : Option Addr) (gc : Nat) (grows : Nat → List Value), Below w.heap.size w wr ∧ Blk wr (w.heap.size + 1) 24 #[.slice none 0 0] ∧ Blk wr nb 24 #[.slice GV g.length gc] ∧ Hid (GrF (fun b => nb + 1 ≤ b ∧ b < wr.heap.size) wr.heap.size wr G GV gc grows) ∧ Hid (G.length = g.length) ∧ Hid (WellG G ∧ nodesG G < n ∧ simN n G = simpG g))
      case atStart => exact ⟨g, V, c, rows, HIN.out.1, HIN.out.2.1, HIN.out.2.2.1, HIN.out.2.2.2, rfl, HW0.out, by omega, rfl⟩
      case round =>
        clear HIN HW0
        obtain ⟨G, GV, gc, grows, hwr, hrs, hob, HGF, HGL, HR⟩ := hrel
        obtain ⟨W1, hlt, hsn⟩ := HR.out
        obtain ⟨f, rfl⟩ : ∃ f, gk = f + 1 := ⟨gk - 1, by omega⟩
        have hfa := wfacts_any HGF.out.is
        unfold FactsQ at hfa
        rw [HGL.out] at hfa
        have HFA := Lib.hid hfa
        have HW1 := Lib.hid W1
        have HLT := Lib.hid hlt
        have HSN := Lib.hid hsn
        have o0 : wr.cell? ⟨nb, 0, none⟩ = some (.slice GV g.length gc) := hob.cell 0
        have hnl := hob.lt
        clear hfa W1 hlt hsn HR
        go_wp2_with fail
        refine HFA.out.mono ?_
        rintro e w2 ⟨hb2, ⟨hbad, _⟩ | ⟨_, fb, rfl, hfb, hfl⟩⟩
        · exact absurd (check_of HW1.out.right) hbad
        clear HFA
        have hob2 := hob.below hb2 hnl
        have hrs2 := hrs.below hb2 hrs.lt
        have hw2 := hwr.trans (hb2.mono hwr.size)
        have hgf2 := (HGF.out.keep (W' := w2) fun p hp => hb2.cell hp.2).mono (S' := fun b => nb + 1 ≤ b ∧ b < w2.heap.size) (fun b hb => ⟨hb.1, Nat.lt_of_lt_of_le hb.2 hb2.size⟩) hb2.size
        have hfbl : fb < w2.heap.size := Blk.lt hfb
        have hof : ∀ (j : Nat) (nm : ByteArray) (k' a' b' c' d' : Int) (t' : ByteArray) (ks' : List Ex) (A' : Option Addr) (cp' : Nat) (W : World) (m' : Bool), Below w2.heap.size w2 W → Blk W w2.heap.size 89 (mkC GV (some ⟨fb, 0, none⟩) g.length gc g.length g.length m') → G[j]? = some (nm, .mk k' a' b' c' d' t' ks') → ExIs w2 w2.heap.size (.mk k' a' b' c' d' t' ks') (exCells k' a' b' c' d' t' A' ks'.length cp') →
            Calls Try.prog 51 #[.pointer (some ⟨w2.heap.size, 0, none⟩), .agg #[.int .i64 k', .int .u64 a', .int .u64 b', .int .u64 c', .int .u64 d', .string t', .slice A' ks'.length cp']] W (SimQ W.heap.size (simF G (.mk k' a' b' c' d' t' ks')) w2.heap.size (mkC GV (some ⟨fb, 0, none⟩) g.length gc g.length g.length (m' || (simE G (factsG G) (.mk k' a' b' c' d' t' ks')).2)) W) := fun j nm k' a' b' c' d' t' ks' A' cp' W m' hW hmk hej hx => by
          have hfn : (factsG G).length = g.length := (facts_len G).trans HGL.out
          have h1 := sof_any (fcp := g.length) (gcp := gc) (GA := GV) (FA := some ⟨fb, 0, none⟩) (row := grows) (mb := w2.heap.size) (fits_of HW1.out.right) (facts_len G) _ (HW1.out.good (List.mem_of_getElem? hej)) _ W m' (hgf2.is.keep (Nat.le_refl _) fun _ hp => hW.cell hp) ((hfb.reads hfbl).below hW) (hx.keep (Nat.le_refl _) fun _ hp => hW.cell hp)
          rw [hfn, HGL.out] at h1
          exact h1 hmk
        have HOF := Lib.hid hof
        have HG2 := Lib.hid hgf2
        have o1 : w2.cell? ⟨nb, 0, none⟩ = some (.slice GV g.length gc) := hob2.cell 0
        have hnl2 := hob2.lt
        have HSI : Hid (SgI (simF G) G w2.heap.size (w2.heap.size + 1) (mkC GV (some ⟨fb, 0, none⟩) g.length gc g.length g.length) w2 none 0 (fun _ => []) 0 false ((w2.alloc (.cells #[.slice GV g.length gc, .slice (some ⟨fb, 0, none⟩) g.length g.length, .bool false] 89)).alloc (.cells #[.slice none 0 0] 24))) :=
          ⟨(by repeat (first | exact Below.refl _ _ | assumption | refine Below.drew ?_ | refine below_drewN ?_ _ | refine Below.alloc ?_ (by first | omega | (simp; omega) | simp) _ | refine Below.setCell ?_ (by first | omega | (simp; omega) | simp) _)), Nat.le_refl _, by omega, (blk_at rfl).alloc _, blk_at (by simp), Rus.nil _ _⟩
        clear hof hgf2 HGF hfb hob hb2 o0 hwr hrs
        go_wp2
        obtain ⟨mb, hmb⟩ : ∃ mb, w2.heap.size = mb := ⟨_, rfl⟩
        rw [hmb] at HSI HOF
        rw [hmb]
        obtain ⟨xb, hxb⟩ : ∃ xb, mb + 1 = xb := ⟨_, rfl⟩
        rw [hxb] at HSI
        rw [hxb]
        go_loopw [54] (fun i wx => ∃ (j : Nat) (m' : Bool), j ≤ g.length ∧ i = .int .i64 j ∧ Hid (m' = (G.take j).any fun r => (simE G (factsG G) r.2).2) ∧ ∃ V c rows, SgI (simF G) G mb xb (mkC GV (some ⟨fb, 0, none⟩) g.length gc g.length g.length) w2 V c rows j m' wx) (fun i _ => g.length - (intOf i).toNat)
        case atStart => exact ⟨0, false, by omega, rfl, by show false = _; simp, _, _, _, HSI.out⟩
        case round =>
          clear HSI
          obtain ⟨j, m', hj, rfl, HMM, V, c, rows, hI⟩ := hrel
          have hnl3 := hI.out.lt
          by_cases hjn : j < g.length
          · obtain ⟨ad, nm, k', a', b', c', d', t', ks', A', cp', rfl, hab, hej, hnm, hE, hS⟩ := HG2.out.is.rule (j := j) (by rw [HGL.out]; exact hjn)
            have hcc : Eight wr (ad.add (j * 8)) nm k' a' b' c' d' t' A' ks'.length cp' :=
              have hk := fun (q : Addr) (hq : q.block = (ad.add (j * 8)).block) => hI.bel.cell (p := q) (by rw [hq, add_block]; omega)
              ⟨(hk _ rfl).trans hS.c0, (hk ⟨_, _, none⟩ rfl).trans hS.c1, (hk ⟨_, _, none⟩ rfl).trans hS.c2, (hk ⟨_, _, none⟩ rfl).trans hS.c3, (hk ⟨_, _, none⟩ rfl).trans hS.c4, (hk ⟨_, _, none⟩ rfl).trans hS.c5, (hk ⟨_, _, none⟩ rfl).trans hS.c6, (hk ⟨_, _, none⟩ rfl).trans hS.c7⟩
            obtain ⟨y0, y1, y2, y3, y4, y5, y6, y7⟩ := hcc
            have had1 : ad.block < wr.heap.size := by have := hI.bel.size; omega
            have hjl : (j : Int) < (g.length : Int) := by omega
            have hGl : G.length = g.length := HGL.out
            have HMS : Hid ((m' || (simE G (factsG G) (.mk k' a' b' c' d' t' ks')).2) = (G.take (j + 1)).any fun r => (simE G (factsG G) r.2).2) := by
              show _ = _
              rw [take_succ_of hej, List.any_append, List.any_cons, List.any_nil, Bool.or_false, HMM.out]
            rw [hmb] at hE
            have hc1 := fun W m' (hW : Below w2.heap.size w2 W) hmk => HOF.out j nm k' a' b' c' d' t' ks' A' cp' W m' (hmb ▸ hW) hmk hej hE
            have HC1 := Lib.hid hc1
            have HEJ := Lib.hid hej
            have HNM := Lib.hid hnm
            have hmbl : mb < wr.heap.size := by have := hI.mak.lt; omega
            clear hc1 hS hE hej hnm HMM
            have hC0 : RuC xb wr.heap.size #[.slice V j c] #[.string nm, .int .i64 k', .int .u64 a', .int .u64 b', .int .u64 c', .int .u64 d', .string t', .slice A' ks'.length cp'] (wr.alloc (.cells #[.string nm, .int .i64 k', .int .u64 a', .int .u64 b', .int .u64 c', .int .u64 d', .string t', .slice A' ks'.length cp'] 44)) := ⟨hI.out.alloc _, blk_at rfl⟩
            have hI1 := hI.below ((Below.refl _ wr).alloc (Nat.le_refl _) (.cells #[.string nm, .int .i64 k', .int .u64 a', .int .u64 b', .int .u64 c', .int .u64 d', .string t', .slice A' ks'.length cp'] 44))
            have hll : ((G.take j).map fun r => (r.1, simF G r.2)).length = j := by simp; omega
            have hold : ∀ q, (Value.slice V j c).ownBlock = some q → q < wr.heap.size := fun q hq => hI.rus.old q (by rw [hll]; exact hq)
            have hkne : some wr.heap.size ≠ (Value.slice V j c).ownBlock := fun e => by have := hold _ e.symm; omega
            have hone : some (xb) ≠ (Value.slice V j c).ownBlock := fun e => by have h1 := hI.rus.own.lt (xb) (by rw [hll]; exact e.symm); omega
            have hbase1 : xb + 1 ≤ (wr.alloc (.cells #[.string nm, .int .i64 k', .int .u64 a', .int .u64 b', .int .u64 c', .int .u64 d', .string t', .slice A' ks'.length cp'] 44)).heap.size := by simp; omega
            have hold1 : ∀ q, (Value.slice V j c).ownBlock = some q → q < (wr.alloc (.cells #[.string nm, .int .i64 k', .int .u64 a', .int .u64 b', .int .u64 c', .int .u64 d', .string t', .slice A' ks'.length cp'] 44)).heap.size := fun q hq => by have := hold q hq; simp; omega
            clear hold hI
            go_upto_region 16 with fail
            have hkmb : some wr.heap.size ≠ some mb := fun e => by injection e with e; omega
            generalize (wr.alloc (.cells #[.string nm, .int .i64 k', .int .u64 a', .int .u64 b', .int .u64 c', .int .u64 d', .string t', .slice A' ks'.length cp'] 44)) = w11 at hC0 hI1 hbase1 hold1 ⊢
            generalize wr.heap.size = kb at hC0 hkne hkmb ⊢
            clear y0 y1 y2 y3 y4 y5 y6 y7 had1
            refine wp_region_l (RuC xb kb #[.slice V j c] #[.string nm, .int .i64 k', .int .u64 a', .int .u64 b', .int .u64 c', .int .u64 d', .string t', .slice A' ks'.length cp']) (· == 11) (by kernel_rfl) ?_
            have hC := hC0.below (Below.refl _ _).drew
            have hI := hI1.below (Below.refl _ _).drew
            have hbd : (w11.drew).heap.size = w11.heap.size := rfl
            rw [← hbd] at hbase1 hold1
            generalize w11.drew = wd at hC hI hbase1 hold1 ⊢
            clear hC0 hI1 hbd
            apply L.rd (i := 0) rfl (by kernel_rfl) hC rfl
            · intro W hW
              skip
              unfold readW
              go_simp
              first | rfl | exact ⟨rfl, rfl⟩
            first | simp only [Act.put, List.setIfInBounds_toArray, List.set_cons_succ, List.set_cons_zero] | skip
            apply L.rd (i := 1) rfl (by kernel_rfl) hC rfl
            · intro W hW
              have n0 := hW.out.cell 0
              unfold readW
              go_simp
              first | rfl | exact ⟨rfl, rfl⟩
            first | simp only [Act.put, List.setIfInBounds_toArray, List.set_cons_succ, List.set_cons_zero] | skip
            apply L.rd (i := 2) rfl (by kernel_rfl) hC rfl
            · intro W hW
              skip
              unfold readW
              go_simp
              first | rfl | exact ⟨rfl, rfl⟩
            first | simp only [Act.put, List.setIfInBounds_toArray, List.set_cons_succ, List.set_cons_zero] | skip
            apply L.rd (i := 3) rfl (by kernel_rfl) hC rfl
            · intro W hW
              have n0 := hW.rule.cell 0
              unfold readW
              go_simp
              first | rfl | exact ⟨rfl, rfl⟩
            first | simp only [Act.put, List.setIfInBounds_toArray, List.set_cons_succ, List.set_cons_zero] | skip
            apply L.rd (i := 4) rfl (by kernel_rfl) hC rfl
            · intro W hW
              skip
              unfold readW
              go_simp
              first | rfl | exact ⟨rfl, rfl⟩
            first | simp only [Act.put, List.setIfInBounds_toArray, List.set_cons_succ, List.set_cons_zero] | skip
            apply L.rd (i := 5) rfl (by kernel_rfl) hC rfl
            · intro W hW
              have r1 := hW.rule.cell 1; have r2 := hW.rule.cell 2; have r3 := hW.rule.cell 3; have r4 := hW.rule.cell 4; have r5 := hW.rule.cell 5; have r6 := hW.rule.cell 6; have r7 := hW.rule.cell 7
              unfold readW
              go_simp
              first | rfl | exact ⟨rfl, rfl⟩
            first | simp only [Act.put, List.setIfInBounds_toArray, List.set_cons_succ, List.set_cons_zero] | skip
            apply L.one (i := 6) rfl (by kernel_rfl) rfl
            unfold stepT
            go_simp
            go_at_call 51
            refine (HC1.out _ _ hI.bel hI.mak).mono ?_
            rintro e wn ⟨⟨rc, rfl, hF⟩, hgn, hmn⟩
            have hC := hC.grown hgn (fun e => by injection e with e; omega) hkmb
            have hI := hI.call hgn hmn
            have hbase2 := Nat.le_trans hbase1 hgn.size
            clear hgn hmn
            have hrc := ex_one' hF.is
            obtain ⟨k1, a1, b1, c1, d1, t1, A1, n1, cp1, rfl⟩ := Ex.parts _ hF.is
            refine ⟨_, rfl, hC, ?_⟩
            first | simp only [Act.put, List.setIfInBounds_toArray, List.set_cons_succ, List.set_cons_zero] | skip
            apply L.rd (i := 7) rfl (by kernel_rfl) hC rfl
            · intro W hW
              skip
              unfold readW
              go_simp
              first | rfl | exact ⟨rfl, rfl⟩
            first | simp only [Act.put, List.setIfInBounds_toArray, List.set_cons_succ, List.set_cons_zero] | skip
            apply L.one (i := 8) rfl (by kernel_rfl) rfl
            unfold stepT
            go_simp
            have hF1 := (hF.keep (W' := wn.alloc (.cells #[.string nm, .int .i64 k1, .int .u64 a1, .int .u64 b1, .int .u64 c1, .int .u64 d1, .string t1, .slice A1 n1 cp1] 44)) fun p hp => World.cell?_alloc_lt wn _ p hp.2).mono (S' := fun b => wd.heap.size ≤ b ∧ b < (wn.alloc (.cells #[.string nm, .int .i64 k1, .int .u64 a1, .int .u64 b1, .int .u64 c1, .int .u64 d1, .string t1, .slice A1 n1 cp1] 44)).heap.size) (fun b hb => ⟨hb.1, by simp; omega⟩) (hi' := (wn.alloc (.cells #[.string nm, .int .i64 k1, .int .u64 a1, .int .u64 b1, .int .u64 c1, .int .u64 d1, .string t1, .slice A1 n1 cp1] 44)).heap.size) (by simp)
            have hkb : Blk (wn.alloc (.cells #[.string nm, .int .i64 k1, .int .u64 a1, .int .u64 b1, .int .u64 c1, .int .u64 d1, .string t1, .slice A1 n1 cp1] 44)) wn.heap.size 44 #[.string nm, .int .i64 k1, .int .u64 a1, .int .u64 b1, .int .u64 c1, .int .u64 d1, .string t1, .slice A1 n1 cp1] := blk_at rfl
            have hC := hC.below ((Below.refl _ _).alloc (Nat.le_refl _) (.cells #[.string nm, .int .i64 k1, .int .u64 a1, .int .u64 b1, .int .u64 c1, .int .u64 d1, .string t1, .slice A1 n1 cp1] 44))
            have hI := hI.below ((Below.refl _ _).alloc (Nat.le_refl _) (.cells #[.string nm, .int .i64 k1, .int .u64 a1, .int .u64 b1, .int .u64 c1, .int .u64 d1, .string t1, .slice A1 n1 cp1] 44))
            have hbase3 : xb + 1 ≤ (wn.alloc (.cells #[.string nm, .int .i64 k1, .int .u64 a1, .int .u64 b1, .int .u64 c1, .int .u64 d1, .string t1, .slice A1 n1 cp1] 44)).heap.size := by simp; omega
            generalize (wn.alloc (.cells #[.string nm, .int .i64 k1, .int .u64 a1, .int .u64 b1, .int .u64 c1, .int .u64 d1, .string t1, .slice A1 n1 cp1] 44)) = wk at hC hI hkb hF1 hbase3 ⊢
            generalize wn.heap.size = rb at hkb ⊢
            clear hF hbase2
            refine ⟨hC, ?_⟩
            apply L.one (i := 9) rfl (by kernel_rfl) rfl
            refine stepT_append_at (.tmp 59) (.tmp 66) 22 rfl (xb + 1) 44 i0 _ 8 96 Try.underlying22 hi0 hz0 hz1 hz2 rfl (by decide) (.slice V j c) j (ruF ((G.take j).map fun r => (r.1, simF G r.2)) rows 0) (by simp [Act.eval]) (by have h1 := hI.rus.own; rw [hll] at h1; exact h1) ⟨rb, 0, none⟩ 1 1 (.string nm :: [.int .i64 k1, .int .u64 a1, .int .u64 b1, .int .u64 c1, .int .u64 d1, .string t1, .slice A1 n1 cp1]) (by simp [Act.eval]) rfl (fun i u hu => by rw [cell_add]; exact (hkb.cell i).trans (by rw [List.getElem?_toArray]; exact hu)) (fun u hu => by rcases List.mem_cons.1 hu with rfl | hu; rfl; exact hrc u hu) (by unfold maxLen; omega) (by omega) hbase3 ?_
            intro v' w3 hown hgr hat
            obtain ⟨V3, c3, rfl⟩ := own_form hown
            have hI3 := hI.push HEJ.out hbase1 hold1 HNM.out hF1 hown hgr hat
            have hC := hC.grown hgr hone hkne
            refine ⟨fun _ => hC, ?_⟩
            first | simp only [Act.put, List.setIfInBounds_toArray, List.set_cons_succ, List.set_cons_zero] | skip
            apply L.rd (i := 10) rfl (by kernel_rfl) hC rfl
            · intro W hW
              skip
              unfold readW
              go_simp
              first | rfl | exact ⟨rfl, rfl⟩
            first | simp only [Act.put, List.setIfInBounds_toArray, List.set_cons_succ, List.set_cons_zero] | skip
            have n0 := hC.out.cell 0
            have f0 := hC.out.frozen 0
            apply L.one (i := 11) rfl (by kernel_rfl) rfl
            unfold stepT
            go_simp
            refine L.done (by kernel_rfl) ?_
            have HI3 := Lib.hid hI3
            clear hI hI3 hC hown hgr hkb n0 f0 hat hF1 hold1 hbase1 hbase3 hkne hone hll hkmb
            go_wp2
            go_roundw
            case rel => exact ⟨j + 1, _, by omega, by go_num, HMS.out, _, _, _, HI3.out⟩
            case measure => simp [intOf]; omega
          · obtain rfl : j = g.length := by omega
            have hGl : G.length = g.length := HGL.out
            have hmm := HMM.out
            rw [← hGl, List.take_length] at hmm
            have hmf : m' = (simG G).2 := hmm
            have hgr := hI.rus.gr
            rw [← hGl, List.take_length, ← simG_map] at hgr
            have hz2 := hI.bel.size
            have hob3 := hob2.below hI.bel hnl2
            have hrs3 := hrs2.below hI.bel hrs2.lt
            have hw3 := hw2.trans (hI.bel.mono hw2.size)
            have x0 : wr.cell? ⟨xb, 0, none⟩ = some (.slice V g.length c) := hI.out.cell 0
            have m2 : wr.cell? ⟨mb, 2, none⟩ = some (.bool m') := hI.mak.cell 2
            have b0 : wr.cell? ⟨nb, 0, none⟩ = some (.slice GV g.length gc) := hob3.cell 0
            have bf := hob3.frozen 0
            have hml3 := hI.mak.lt
            have hxl3 := hI.out.lt
            have hob4 : Blk (wr.setCell ⟨nb, 0, none⟩ (.slice V g.length c)) nb 24 #[.slice V g.length c] := hob3.set_ 0 _
            have hrs4 := hrs3.far (p := ⟨nb, 0, none⟩) (by simp; omega) (.slice V g.length c)
            have hw4 := hw3.setCell (p := ⟨nb, 0, none⟩) (by simp; omega) (.slice V g.length c)
            have hsz4 : (wr.setCell ⟨nb, 0, none⟩ (.slice V g.length c)).heap.size = wr.heap.size := by simp [World.setCell]
            have hgr4 : GrF (fun b => nb + 1 ≤ b ∧ b < (wr.setCell ⟨nb, 0, none⟩ (.slice V g.length c)).heap.size) (wr.setCell ⟨nb, 0, none⟩ (.slice V g.length c)).heap.size (wr.setCell ⟨nb, 0, none⟩ (.slice V g.length c)) (simG G).1 V c rows := by
              rw [hsz4]
              exact (hgr.keep fun p hp => World.cell?_setCell_other wr _ p _ (by rintro rfl; have := hp.1; simp at this; omega)).mono (fun b hb => ⟨by omega, hb.2⟩) (Nat.le_refl _)
            have m2' : (wr.setCell ⟨nb, 0, none⟩ (.slice V g.length c)).cell? ⟨mb, 2, none⟩ = some (.bool m') := (World.cell?_setCell_other wr ⟨nb, 0, none⟩ ⟨mb, 2, none⟩ _ (by simp; try omega)).trans m2
            have hlen2 : (simG G).1.length = g.length := by unfold simG; simp [hGl]
            have HW1' := HW1
            have HF := Lib.hid hmf
            clear hI hgr hob3 hrs3 hw3 HOF HMM hmm hmf m2 hz2
            go_upto_region 19 with fail
            clear x0 b0 bf
            generalize (wr.setCell ⟨nb, 0, none⟩ (.slice V g.length c)) = wy at hob4 hrs4 hw4 hgr4 m2' hsz4 ⊢
            have hml4 : mb < wy.heap.size := by omega
            cases m' with
            | true =>
              have hst : WellG (simG G).1 ∧ nodesG (simG G).1 < f ∧ simN f (simG G).1 = simpG g := by
                have h1 := (simG_sz G).2 HF.out.symm
                have h2 := HLT.out
                refine ⟨(simG_eq HW1.out).well, by omega, ?_⟩
                have h3 := HSN.out
                rw [simN, if_pos HF.out.symm] at h3
                exact h3
              have HST := Lib.hid hst
              have HGR4 := Lib.hid hgr4
              clear hst hgr4
              go_wp2
              go_roundg f
              case rel => exact ⟨_, V, c, rows, hw4, hrs4, hob4, HGR4.out, hlen2, HST.out⟩
              case measure => omega
            | false =>
              have hend : (simG G).1 = simpG g := by
                have h3 := HSN.out
                rw [simN, if_neg (by rw [← HF.out]; decide)] at h3
                exact h3
              rw [hend] at hgr4
              have b0 : wy.cell? ⟨nb, 0, none⟩ = some (.slice V g.length c) := hob4.cell 0
              have z0 : wy.cell? ⟨w.heap.size + 1, 0, none⟩ = some (.slice none 0 0) := hrs4.cell 0
              have f0 := hrs4.frozen 0
              have q0 : (wy.setCell ⟨w.heap.size + 1, 0, none⟩ (.slice V g.length c)).cell? ⟨w.heap.size + 1, 0, none⟩ = some (.slice V g.length c) := (hrs4.set_ 0 _).cell 0
              have hsz5 : (wy.setCell ⟨w.heap.size + 1, 0, none⟩ (.slice V g.length c)).heap.size = wy.heap.size := by simp [World.setCell]
              have hG5 : GrF (fun b => w.heap.size ≤ b ∧ b < (wy.setCell ⟨w.heap.size + 1, 0, none⟩ (.slice V g.length c)).heap.size) (wy.setCell ⟨w.heap.size + 1, 0, none⟩ (.slice V g.length c)).heap.size (wy.setCell ⟨w.heap.size + 1, 0, none⟩ (.slice V g.length c)) (simpG g) V c rows := by
                rw [hsz5]
                exact (hgr4.keep fun p hp => World.cell?_setCell_other wy _ p _ (by rintro rfl; have := hp.1; simp at this; omega)).mono (fun b hb => ⟨by omega, hb.2⟩) (Nat.le_refl _)
              have HG5 := Lib.hid hG5
              have hw5 := hw4.setCell (p := ⟨w.heap.size + 1, 0, none⟩) (by simp) (.slice V g.length c)
              have hnl5 := hob4.lt
              clear hgr4 hG5 hend
              go_wp2
              exact bodyPost_ret (v := .tuple #[.agg #[.slice V g.length c], .int .i64 0]) (by simp [results, Try.results19, go_sem, q0]) rfl (HQ.out _ _ _ _ hw5 HG5.out)
end Go.Proofs.Ytefechceoeeonaa
