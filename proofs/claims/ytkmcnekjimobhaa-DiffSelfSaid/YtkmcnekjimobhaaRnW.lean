/- A grammar with other names: an expression copied, its names looked up in a map. -/
import Derived.Test.YtkmcnekjimobhaaKdA
import Derived.Test.YtkmcnekjimobhaaKdR
import Derived.Test.YtkmcnekjimobhaaRnE
import Derived.Maps.Own
import Derived.Maps.OwnOps
import Derived.Maps.StringElems
namespace Go.Proofs.Ytkmcnekjimobhaa
open Go.RowKit Go.Maps

/-- the map of names, as it reads -/
abbrev NmD := DataW Unit
/-- what it has at a name -/
def lkD (D : NmD) (t : ByteArray) : ByteArray := match D.atKey (.string t.data.toList) (.lit (.string [])) with
  | .lit (.string l) => ⟨l.toArray⟩
  | _ => ⟨#[]⟩
theorem zero_str (w : World) : (zeroValue 9).run Try.prog w = .ok (.string ⟨#[]⟩) w := by kernel_rfl
/-- the map at hand -/
abbrev NmIs (w : World) (b n : Nat) (D : NmD) : Prop := w.ownsMap Try.prog 9 (plainElem (H := Unit) Try.prog 9) b n D
theorem NmIs.below {w w' : World} {b n : Nat} {D : NmD} (h : NmIs w b n D) (hb : Below w.heap.size w w') : NmIs w' b n D := by
  have hlt := World.ownsMap.lt h
  obtain ⟨es, clock, hh, F, hs, hD⟩ := h
  exact ⟨es, clock, (hb.block b hlt).trans hh, F, hs, hD⟩
theorem NmIs.look {w : World} {b n : Nat} {D : NmD} (h : NmIs w b n D) {t : ByteArray} (ht : t.size ≤ maxLen) :
    (Instr.lookup 143 (.map (some b)) (.string t) false).run Try.prog w = .ok (.string (lkD D t)) w ∧ (lkD D t).size ≤ maxLen := by
  have hkey := Go.WideMaps.keyOf_string_mk Try.underlying9 ht
  obtain ⟨v, ps, hrun, hv⟩ := World.ownsMap.lookup h (Maps.string_keyed Try.underlying9) Try.underlying143 (zero_str w) (plainElem_string Try.underlying9 (s := ⟨#[]⟩) (by decide)) hkey
  obtain ⟨s, rfl, hz, hs⟩ := plainElem_string_inv Try.underlying9 hv
  simp only [Prod.mk.injEq] at hz
  have e : lkD D t = s := by
    unfold lkD
    rw [show D.atKey (.string t.data.toList) (.lit (.string [])) = .lit (.string s.data.toList) from hz.1]
  rw [e]
  exact ⟨hrun, hs⟩

/-- while kids are made -/
structure RnI (f : Ex → Ex) (k a b c d : Int) (t t2 : ByteArray) (ks : List Ex) (A : Option Addr) (cp : Nat) (w : World) (V : Option Addr) (cv : Nat) (rows : Nat → List Value) (j : Nat) (W : World) : Prop where
  bel : Below w.heap.size w W
  box : Blk W w.heap.size 37 #[.int .i64 k, .int .u64 a, .int .u64 b, .int .u64 c, .int .u64 d, .string t, .slice A ks.length cp]
  res : Blk W (w.heap.size + 1) 37 #[.int .i64 0, .int .u64 0, .int .u64 0, .int .u64 0, .int .u64 0, .string ⟨#[]⟩, .slice none 0 0]
  out : Blk W (w.heap.size + 1 + 1) 37 #[.int .i64 k, .int .u64 a, .int .u64 b, .int .u64 c, .int .u64 d, .string t2, .slice V j cv]
  kids : Kids (w.heap.size + 3) W ((ks.take j).map f) V cv rows
section
variable {f : Ex → Ex} {k a b c d : Int} {t t2 : ByteArray} {ks : List Ex} {A : Option Addr} {cp : Nat} {w : World} {V : Option Addr} {cv : Nat} {rows : Nat → List Value} {j : Nat} {W W' : World}
theorem RnI.below (h : RnI f k a b c d t t2 ks A cp w V cv rows j W) (hb : Below W.heap.size W W') : RnI f k a b c d t t2 ks A cp w V cv rows j W' :=
  ⟨h.bel.trans (hb.mono h.bel.size), h.box.below hb h.box.lt, h.res.below hb h.res.lt, h.out.below hb h.out.lt, h.kids.below hb⟩
theorem RnI.push {V' : Option Addr} {c' lo : Nat} {e : Ex} {r : List Value} (h : RnI f k a b c d t t2 ks A cp w V cv rows j W) (he : ks[j]? = some e) (hlo : w.heap.size + 3 ≤ lo) (hold : ∀ q, (Value.slice V j cv).ownBlock = some q → q < lo) (hE : ExF (fun b => lo ≤ b ∧ b < W.heap.size) W.heap.size W (f e) r)
    (hown : W'.ownsRow (w.heap.size + 3) 37 7 (.slice V' (j + 1) c') (j + 1) (kdF rows j ++ r)) (hg : W.grownBy W' (Value.slice V j cv).ownBlock)
    (hat : (Value.slice V' (j + 1) c').ownBlock = (Value.slice V j cv).ownBlock ∨ (Value.slice V' (j + 1) c').ownBlock = some W.heap.size) :
    RnI f k a b c d t t2 ks A cp w V' c' (fun i => if i = j then r else rows i) (j + 1) (W'.setCell ⟨w.heap.size + 1 + 1, 6, none⟩ (.slice V' (j + 1) c')) := by
  have hjl := getElem?_lt he
  have hl : ((ks.take j).map f).length = j := by simp; omega
  have hne : ∀ b, b < w.heap.size + 3 → some b ≠ (Value.slice V j cv).ownBlock := fun b hb e => by
    have := h.kids.own.lt b (by rw [hl]; exact e.symm)
    omega
  have hlow : Below w.heap.size W W' := ⟨hg.os, hg.tape, hg.output, hg.size, fun q hq => hg.block q (by have := h.bel.size; omega) (hne q (by omega))⟩
  have hk := h.kids.push (V' := V') (c' := c') (lo := lo) (e := f e) (r := r) hlo (by rw [hl]; exact hold) hE (by rw [hl]; exact hown) (by rw [hl]; exact hg) (by rw [hl]; exact hat)
  rw [hl] at hk
  refine ⟨(h.bel.trans hlow).setCell (by simp; omega) _, ((h.box.grown hg (hne _ (by omega))).far (by simp; omega) _), ((h.res.grown hg (hne _ (by omega))).far (by simp) _), ((h.out.grown hg (hne _ (by omega))).set_ 6 _), ?_⟩
  rw [take_succ_of he, List.map_append, List.map_cons, List.map_nil]
  exact hk.far (by omega) _ _
end

set_option maxRecDepth 100000 in
set_option maxHeartbeats 8000000 in
theorem renamed_any (D : NmD) (e : Ex) : K8 e → ∀ (cs : List Value) (w : World) (mb n : Nat), NmIs w mb n D → ExIs w w.heap.size e cs → Calls Try.prog 73 #[.agg cs.toArray, .map (some mb)] w (MadeQ (rnE (lkD D) e) w) := by
  refine Ex.ind (P := fun e => K8 e → ∀ (cs : List Value) (w : World) (mb n : Nat), NmIs w mb n D → ExIs w w.heap.size e cs → Calls Try.prog 73 #[.agg cs.toArray, .map (some mb)] w (MadeQ (rnE (lkD D) e) w)) ?_ e
  intro k a b c d t ks ih h8 cs w mb n hM hE
  cases h8 with
  | mk _ _ _ _ _ _ _ hk8 h8k =>
  obtain ⟨htl, A, cp, rfl, hkc, hcm, hnil⟩ := hE.shape
  obtain ⟨i0, hi0, hz0, hz1, hz2⟩ := info_parts expr_info
  have hcall : ∀ (j : Nat) (k' a' b' c' d' : Int) (t' : ByteArray) (ks' : List Ex) (A' : Option Addr) (cp' : Nat) (W : World), Below w.heap.size w W → ks[j]? = some (.mk k' a' b' c' d' t' ks') → ExIs w w.heap.size (.mk k' a' b' c' d' t' ks') (exCells k' a' b' c' d' t' A' ks'.length cp') →
      Calls Try.prog 73 #[.agg #[.int .i64 k', .int .u64 a', .int .u64 b', .int .u64 c', .int .u64 d', .string t', .slice A' ks'.length cp'], .map (some mb)] W (MadeQ (rnE (lkD D) (.mk k' a' b' c' d' t' ks')) W) := fun j k' a' b' c' d' t' ks' A' cp' W hW hej hx =>
    ih _ (List.mem_of_getElem? hej) (h8k _ (List.mem_of_getElem? hej)) _ W mb n (hM.below hW) (hx.grow hW)
  have hlook := fun (W : World) (hW : Below w.heap.size w W) => ((hM.below hW).look htl).1
  have htl2 := (hM.look htl).2
  have HC := Lib.hid hcall
  have HE := Lib.hid hE
  have HLK := Lib.hid hlook
  have HQ : Hid (∀ W' cs', ExF (fun b => w.heap.size ≤ b ∧ b < W'.heap.size) W'.heap.size W' (.mk k a b c d (if k = 4 then lkD D t else t) (ks.map (rnE (lkD D)))) cs' → Below w.heap.size w W' → MadeQ (rnE (lkD D) (.mk k a b c d t ks)) w (.returned (.agg cs'.toArray)) W') := fun W' cs' h1 h2 => by
    rw [rnE_mk]
    exact ⟨⟨cs', rfl, h1⟩, h2⟩
  generalize MadeQ (rnE (lkD D) (.mk k a b c d t ks)) w = Q at HQ ⊢
  clear ih h8k hcall hE hlook hM
  unfold exCells
  generalize rnE (lkD D) = f at HC HQ
  generalize lkD D t = tn at HQ HLK htl2
  obtain ⟨t2, ht2⟩ : ∃ t2, t2 = if k = 4 then tn else t := ⟨_, rfl⟩
  rw [← ht2] at HQ
  have htz : t2.size ≤ maxLen := by rw [ht2]; split; exact htl2; exact htl
  have HTZ := Lib.hid htz
  have HTL := Lib.hid htl
  clear htz htl htl2
  unfold maxLen at hcm
  by_cases hk4 : k = 4
  focus
    rw [if_pos hk4] at ht2
    subst ht2
    have hkb : (k == 4) = true := by rw [beq_iff_eq]; exact hk4
    clear hk4
    go_enter Try.func73, Try.ntmps73
    have hl1 := HLK.out (((w.alloc (.cells #[.int .i64 k, .int .u64 a, .int .u64 b, .int .u64 c, .int .u64 d, .string t, .slice A ks.length cp] 37)).alloc (.cells #[.int .i64 0, .int .u64 0, .int .u64 0, .int .u64 0, .int .u64 0, .string ⟨#[]⟩, .slice none 0 0] 37)).alloc (.cells #[.int .i64 k, .int .u64 a, .int .u64 b, .int .u64 c, .int .u64 d, .string t, .slice none 0 0] 37)) (by repeat (first | exact Below.refl _ _ | assumption | refine Below.drew ?_ | refine below_drewN ?_ _ | refine Below.alloc ?_ (by first | omega | (simp; omega) | simp) _ | refine Below.setCell ?_ (by first | omega | (simp; omega) | simp) _))
    go_wp2
  rotate_left
  focus
    rw [if_neg hk4] at ht2
    subst ht2
    have hkb : (k == 4) = false := by rw [beq_eq_false_iff_ne]; exact hk4
    clear hk4 HLK
    go_enter Try.func73, Try.ntmps73
    go_wp2
    obtain ⟨t, ht⟩ : ∃ y : ByteArray, y = t2 := ⟨_, rfl⟩
  all_goals (
    go_loopw [7, 21] (fun _ i wr => ∃ j : Nat, j ≤ ks.length ∧ i = .int .i64 j ∧ ∃ V cv rows, RnI f k a b c d t t2 ks A cp w V cv rows j wr) (fun _ i _ => ks.length - (intOf i).toNat)
    case atStart =>
      try subst ht
      refine ⟨0, by omega, rfl, none, 0, fun _ => [], (by repeat (first | exact Below.refl _ _ | assumption | refine Below.drew ?_ | refine below_drewN ?_ _ | refine Below.alloc ?_ (by first | omega | (simp; omega) | simp) _ | refine Below.setCell ?_ (by first | omega | (simp; omega) | simp) _)), ((blk_at rfl).alloc _).alloc _, (blk_at (by simp)).alloc _, blk_at (by simp), Kids.nil _ _⟩
    case round =>
      obtain ⟨j, hj, rfl, V, cv, rows, hI⟩ := hrel
      have hbw := hI.bel
      have hzw := hbw.size
      by_cases hjn : j < ks.length
      · obtain ⟨ad, k', a', b', c', d', t', ks', A', cp', rfl, hab, hej, hx, hS⟩ := HE.out.kid hjn
        have hk := fun (q : Addr) (hq : q.block = (ad.add (j * 7)).block) => hbw.cell (p := q) (by rw [hq, add_block]; omega)
        have y0 := (hk _ rfl).trans hS.c0
        have y1 := (hk ⟨_, _, none⟩ rfl).trans hS.c1
        have y2 := (hk ⟨_, _, none⟩ rfl).trans hS.c2
        have y3 := (hk ⟨_, _, none⟩ rfl).trans hS.c3
        have y4 := (hk ⟨_, _, none⟩ rfl).trans hS.c4
        have y5 := (hk ⟨_, _, none⟩ rfl).trans hS.c5
        have y6 := (hk ⟨_, _, none⟩ rfl).trans hS.c6
        have had1 : ad.block < wr.heap.size := by omega
        have hjl : (j : Int) < (ks.length : Int) := by omega
        clear hk hS
        have hC0 : KdC (w.heap.size + 1 + 1) wr.heap.size #[.int .i64 k, .int .u64 a, .int .u64 b, .int .u64 c, .int .u64 d, .string t2, .slice V j cv] #[.int .i64 k', .int .u64 a', .int .u64 b', .int .u64 c', .int .u64 d', .string t', .slice A' ks'.length cp'] (wr.alloc (.cells #[.int .i64 k', .int .u64 a', .int .u64 b', .int .u64 c', .int .u64 d', .string t', .slice A' ks'.length cp'] 37)) := ⟨hI.out.alloc _, blk_at rfl⟩
        have hI1 := hI.below ((Below.refl _ wr).alloc (Nat.le_refl _) (.cells #[.int .i64 k', .int .u64 a', .int .u64 b', .int .u64 c', .int .u64 d', .string t', .slice A' ks'.length cp'] 37))
        have hold : ∀ q, (Value.slice V j cv).ownBlock = some q → q < wr.heap.size := fun q hq => hI.kids.old q (by simpa [Nat.min_eq_left hj] using hq)
        have hbase : w.heap.size + 3 ≤ wr.heap.size := by have := hI.out.lt; omega
        have HOLD := Lib.hid hold
        have HEJ := Lib.hid hej
        have HX := Lib.hid hx
        clear hej hx hold hI
        go_upto_region 8 with fail
        have hkne : some wr.heap.size ≠ (Value.slice V j cv).ownBlock := fun e => by have := HOLD.out _ e.symm; omega
        have hone : some (w.heap.size + 1 + 1) ≠ (Value.slice V j cv).ownBlock := fun e => by have h1 := hI1.kids.own.lt (w.heap.size + 1 + 1) (by simpa [Nat.min_eq_left hj] using e.symm); omega
        have hbase1 : w.heap.size + 3 ≤ (wr.alloc (.cells #[.int .i64 k', .int .u64 a', .int .u64 b', .int .u64 c', .int .u64 d', .string t', .slice A' ks'.length cp'] 37)).heap.size := by simp; omega
        have hold1 : ∀ q, (Value.slice V j cv).ownBlock = some q → q < (wr.alloc (.cells #[.int .i64 k', .int .u64 a', .int .u64 b', .int .u64 c', .int .u64 d', .string t', .slice A' ks'.length cp'] 37)).heap.size := fun q hq => by have := HOLD.out q hq; simp; omega
        generalize (wr.alloc (.cells #[.int .i64 k', .int .u64 a', .int .u64 b', .int .u64 c', .int .u64 d', .string t', .slice A' ks'.length cp'] 37)) = w11 at hC0 hI1 hbase1 hold1 ⊢
        generalize wr.heap.size = kb at hC0 hkne ⊢
        clear y0 y1 y2 y3 y4 y5 y6 had1 hbw
        refine wp_region_l (KdC (w.heap.size + 1 + 1) kb #[.int .i64 k, .int .u64 a, .int .u64 b, .int .u64 c, .int .u64 d, .string t2, .slice V j cv] #[.int .i64 k', .int .u64 a', .int .u64 b', .int .u64 c', .int .u64 d', .string t', .slice A' ks'.length cp']) (· == 8) (by kernel_rfl) ?_
        have hC := hC0.below (Below.refl _ _).drew
        have hI := hI1.below (Below.refl _ _).drew
        have hbd : (w11.drew).heap.size = w11.heap.size := rfl
        rw [← hbd] at hbase1 hold1
        generalize w11.drew = wd at hC hI hbase1 hold1 ⊢
        clear hC0 hI1 hbd
        apply L.rd (i := 0) rfl (by kernel_rfl) hC rfl
        · intro W hW
          skip
          unfold readW
          go_simp
          first | rfl | exact ⟨rfl, rfl⟩
        first | simp only [Act.put, List.setIfInBounds_toArray, List.set_cons_succ, List.set_cons_zero] | skip
        apply L.rd (i := 1) rfl (by kernel_rfl) hC rfl
        · intro W hW
          have n0 := hW.out.cell 6
          unfold readW
          go_simp
          first | rfl | exact ⟨rfl, rfl⟩
        first | simp only [Act.put, List.setIfInBounds_toArray, List.set_cons_succ, List.set_cons_zero] | skip
        apply L.rd (i := 2) rfl (by kernel_rfl) hC rfl
        · intro W hW
          have r0 := hW.kid.cell 0; have r1 := hW.kid.cell 1; have r2 := hW.kid.cell 2; have r3 := hW.kid.cell 3; have r4 := hW.kid.cell 4; have r5 := hW.kid.cell 5; have r6 := hW.kid.cell 6
          unfold readW
          go_simp
          first | rfl | exact ⟨rfl, rfl⟩
        first | simp only [Act.put, List.setIfInBounds_toArray, List.set_cons_succ, List.set_cons_zero] | skip
        apply L.rd (i := 3) rfl (by kernel_rfl) hC rfl
        · intro W hW
          skip
          unfold readW
          go_simp
          first | rfl | exact ⟨rfl, rfl⟩
        first | simp only [Act.put, List.setIfInBounds_toArray, List.set_cons_succ, List.set_cons_zero] | skip
        apply L.one (i := 4) rfl (by kernel_rfl) rfl
        unfold stepT
        go_simp
        go_at_call 73
        refine (HC.out _ _ _ _ _ _ _ _ _ _ _ hI.bel HEJ.out HX.out).mono ?_
        rintro e wn ⟨⟨rc, rfl, hF⟩, hbn⟩
        have hC := hC.below hbn
        have hI := hI.below hbn
        have hbase2 := Nat.le_trans hbase1 hbn.size
        clear hbn
        have hrc := ex_one' hF.is
        obtain ⟨k1, a1, b1, c1, d1, t1, A1, n1, cp1, rfl⟩ := Ex.parts _ hF.is
        refine ⟨_, rfl, hC, ?_⟩
        first | simp only [Act.put, List.setIfInBounds_toArray, List.set_cons_succ, List.set_cons_zero] | skip
        apply L.one (i := 5) rfl (by kernel_rfl) rfl
        unfold stepT
        go_simp
        have hF1 := (hF.keep (W' := wn.alloc (.cells #[.int .i64 k1, .int .u64 a1, .int .u64 b1, .int .u64 c1, .int .u64 d1, .string t1, .slice A1 n1 cp1] 37)) fun p hp => World.cell?_alloc_lt wn _ p hp.2).mono (S' := fun b => wd.heap.size ≤ b ∧ b < (wn.alloc (.cells #[.int .i64 k1, .int .u64 a1, .int .u64 b1, .int .u64 c1, .int .u64 d1, .string t1, .slice A1 n1 cp1] 37)).heap.size) (fun b hb => ⟨hb.1, by simp; omega⟩) (hi' := (wn.alloc (.cells #[.int .i64 k1, .int .u64 a1, .int .u64 b1, .int .u64 c1, .int .u64 d1, .string t1, .slice A1 n1 cp1] 37)).heap.size) (by simp)
        have hkb : Blk (wn.alloc (.cells #[.int .i64 k1, .int .u64 a1, .int .u64 b1, .int .u64 c1, .int .u64 d1, .string t1, .slice A1 n1 cp1] 37)) wn.heap.size 37 #[.int .i64 k1, .int .u64 a1, .int .u64 b1, .int .u64 c1, .int .u64 d1, .string t1, .slice A1 n1 cp1] := blk_at rfl
        have hC := hC.below ((Below.refl _ _).alloc (Nat.le_refl _) (.cells #[.int .i64 k1, .int .u64 a1, .int .u64 b1, .int .u64 c1, .int .u64 d1, .string t1, .slice A1 n1 cp1] 37))
        have hI := hI.below ((Below.refl _ _).alloc (Nat.le_refl _) (.cells #[.int .i64 k1, .int .u64 a1, .int .u64 b1, .int .u64 c1, .int .u64 d1, .string t1, .slice A1 n1 cp1] 37))
        have hbase3 : w.heap.size + 3 ≤ (wn.alloc (.cells #[.int .i64 k1, .int .u64 a1, .int .u64 b1, .int .u64 c1, .int .u64 d1, .string t1, .slice A1 n1 cp1] 37)).heap.size := by simp; omega
        generalize (wn.alloc (.cells #[.int .i64 k1, .int .u64 a1, .int .u64 b1, .int .u64 c1, .int .u64 d1, .string t1, .slice A1 n1 cp1] 37)) = wk at hC hI hkb hF1 hbase3 ⊢
        generalize wn.heap.size = nb at hkb ⊢
        clear hF hbase2
        refine ⟨hC, ?_⟩
        apply L.one (i := 6) rfl (by kernel_rfl) rfl
        refine stepT_append_at (.tmp 26) (.tmp 30) 35 rfl (w.heap.size + 3) 37 i0 _ 7 80 Try.underlying35 hi0 hz0 hz1 hz2 rfl (by decide) (.slice V j cv) j (kdF rows j) (by simp [Act.eval]) (by simpa [Nat.min_eq_left hj] using hI.kids.own) ⟨nb, 0, none⟩ 1 1 [.int .i64 k1, .int .u64 a1, .int .u64 b1, .int .u64 c1, .int .u64 d1, .string t1, .slice A1 n1 cp1] (by simp [Act.eval]) rfl (fun i u hu => by rw [cell_add]; exact (hkb.cell i).trans (by rw [List.getElem?_toArray]; exact hu)) hrc (by unfold maxLen; omega) (by omega) hbase3 ?_
        intro v' w3 hown hgr hat
        obtain ⟨V3, c3, rfl⟩ := own_form hown
        have hI3 := hI.push HEJ.out hbase1 hold1 hF1 hown hgr hat
        have hC := hC.grown hgr hone hkne
        refine ⟨fun _ => hC, ?_⟩
        first | simp only [Act.put, List.setIfInBounds_toArray, List.set_cons_succ, List.set_cons_zero] | skip
        apply L.rd (i := 7) rfl (by kernel_rfl) hC rfl
        · intro W hW
          skip
          unfold readW
          go_simp
          first | rfl | exact ⟨rfl, rfl⟩
        first | simp only [Act.put, List.setIfInBounds_toArray, List.set_cons_succ, List.set_cons_zero] | skip
        have n0 := hC.out.cell 6
        have f0 := hC.out.frozen 6
        apply L.one (i := 8) rfl (by kernel_rfl) rfl
        unfold stepT
        go_simp
        refine L.done (by kernel_rfl) ?_
        have HI3 := Lib.hid hI3
        clear hI hI3 hC hown hgr hkb n0 f0 hat hF1 hold1 hbase1 hbase3 hkne hone
        go_wp2
        go_roundw
        case rel => exact ⟨j + 1, by omega, by go_num, _, _, _, HI3.out⟩
        case measure => simp [intOf]; omega
      · obtain rfl : j = ks.length := by omega
        have hK := hI.kids.node k a b c d t2 HTZ.out
        rw [List.take_length] at hK
        have hKl : (ks.map f).length = ks.length := List.length_map _
        rw [hKl] at hK
        have ho := hI.out
        have x0 : wr.cell? ⟨w.heap.size + 1 + 1, 0, none⟩ = some (.int .i64 k) := ho.cell 0; have x1 : wr.cell? ⟨w.heap.size + 1 + 1, 1, none⟩ = some (.int .u64 a) := ho.cell 1; have x2 : wr.cell? ⟨w.heap.size + 1 + 1, 2, none⟩ = some (.int .u64 b) := ho.cell 2; have x3 : wr.cell? ⟨w.heap.size + 1 + 1, 3, none⟩ = some (.int .u64 c) := ho.cell 3; have x4 : wr.cell? ⟨w.heap.size + 1 + 1, 4, none⟩ = some (.int .u64 d) := ho.cell 4; have x5 : wr.cell? ⟨w.heap.size + 1 + 1, 5, none⟩ = some (.string t2) := ho.cell 5; have x6 : wr.cell? ⟨w.heap.size + 1 + 1, 6, none⟩ = some (.slice V ks.length cv) := ho.cell 6
        have hrs := hI.res
        have hwz := hI.out.lt
        have HK := Lib.hid hK
        clear hI hK ho
        have yz0 : wr.cell? ⟨w.heap.size + 1, 0, none⟩ = some (.int .i64 0) := hrs.cell 0; have yz1 : wr.cell? ⟨w.heap.size + 1, 1, none⟩ = some (.int .u64 0) := hrs.cell 1; have yz2 : wr.cell? ⟨w.heap.size + 1, 2, none⟩ = some (.int .u64 0) := hrs.cell 2; have yz3 : wr.cell? ⟨w.heap.size + 1, 3, none⟩ = some (.int .u64 0) := hrs.cell 3; have yz4 : wr.cell? ⟨w.heap.size + 1, 4, none⟩ = some (.int .u64 0) := hrs.cell 4; have yz5 : wr.cell? ⟨w.heap.size + 1, 5, none⟩ = some (.string ⟨#[]⟩) := hrs.cell 5; have yz6 : wr.cell? ⟨w.heap.size + 1, 6, none⟩ = some (.slice none 0 0) := hrs.cell 6; have yf0 := hrs.frozen 0; have yf1 := hrs.frozen 1; have yf2 := hrs.frozen 2; have yf3 := hrs.frozen 3; have yf4 := hrs.frozen 4; have yf5 := hrs.frozen 5; have yf6 := hrs.frozen 6; have ye0 : (wr.setCell ⟨w.heap.size + 1, 0, none⟩ (.int .i64 k)).cell? ⟨w.heap.size + 1, 0, none⟩ = some (.int .i64 k) := (hrs.set_ 0 _).cell 0; have ye1 : ((wr.setCell ⟨w.heap.size + 1, 0, none⟩ (.int .i64 k)).setCell ⟨w.heap.size + 1, 1, none⟩ (.int .u64 a)).cell? ⟨w.heap.size + 1, 1, none⟩ = some (.int .u64 a) := ((hrs.set_ 0 _).set_ 1 _).cell 1; have ye2 : (((wr.setCell ⟨w.heap.size + 1, 0, none⟩ (.int .i64 k)).setCell ⟨w.heap.size + 1, 1, none⟩ (.int .u64 a)).setCell ⟨w.heap.size + 1, 2, none⟩ (.int .u64 b)).cell? ⟨w.heap.size + 1, 2, none⟩ = some (.int .u64 b) := (((hrs.set_ 0 _).set_ 1 _).set_ 2 _).cell 2; have ye3 : ((((wr.setCell ⟨w.heap.size + 1, 0, none⟩ (.int .i64 k)).setCell ⟨w.heap.size + 1, 1, none⟩ (.int .u64 a)).setCell ⟨w.heap.size + 1, 2, none⟩ (.int .u64 b)).setCell ⟨w.heap.size + 1, 3, none⟩ (.int .u64 c)).cell? ⟨w.heap.size + 1, 3, none⟩ = some (.int .u64 c) := ((((hrs.set_ 0 _).set_ 1 _).set_ 2 _).set_ 3 _).cell 3; have ye4 : (((((wr.setCell ⟨w.heap.size + 1, 0, none⟩ (.int .i64 k)).setCell ⟨w.heap.size + 1, 1, none⟩ (.int .u64 a)).setCell ⟨w.heap.size + 1, 2, none⟩ (.int .u64 b)).setCell ⟨w.heap.size + 1, 3, none⟩ (.int .u64 c)).setCell ⟨w.heap.size + 1, 4, none⟩ (.int .u64 d)).cell? ⟨w.heap.size + 1, 4, none⟩ = some (.int .u64 d) := (((((hrs.set_ 0 _).set_ 1 _).set_ 2 _).set_ 3 _).set_ 4 _).cell 4; have ye5 : ((((((wr.setCell ⟨w.heap.size + 1, 0, none⟩ (.int .i64 k)).setCell ⟨w.heap.size + 1, 1, none⟩ (.int .u64 a)).setCell ⟨w.heap.size + 1, 2, none⟩ (.int .u64 b)).setCell ⟨w.heap.size + 1, 3, none⟩ (.int .u64 c)).setCell ⟨w.heap.size + 1, 4, none⟩ (.int .u64 d)).setCell ⟨w.heap.size + 1, 5, none⟩ (.string t2)).cell? ⟨w.heap.size + 1, 5, none⟩ = some (.string t2) := ((((((hrs.set_ 0 _).set_ 1 _).set_ 2 _).set_ 3 _).set_ 4 _).set_ 5 _).cell 5; have ye6 : (((((((wr.setCell ⟨w.heap.size + 1, 0, none⟩ (.int .i64 k)).setCell ⟨w.heap.size + 1, 1, none⟩ (.int .u64 a)).setCell ⟨w.heap.size + 1, 2, none⟩ (.int .u64 b)).setCell ⟨w.heap.size + 1, 3, none⟩ (.int .u64 c)).setCell ⟨w.heap.size + 1, 4, none⟩ (.int .u64 d)).setCell ⟨w.heap.size + 1, 5, none⟩ (.string t2)).setCell ⟨w.heap.size + 1, 6, none⟩ (.slice V ks.length cv)).cell? ⟨w.heap.size + 1, 6, none⟩ = some (.slice V ks.length cv) := (((((((hrs.set_ 0 _).set_ 1 _).set_ 2 _).set_ 3 _).set_ 4 _).set_ 5 _).set_ 6 _).cell 6
        go_wp2
        exact bodyPost_ret (v := .agg #[.int .i64 k, .int .u64 a, .int .u64 b, .int .u64 c, .int .u64 d, .string t2, .slice V ks.length cv]) (by simp [results, Try.results73, go_sem, ye0, ye1, ye2, ye3, ye4, ye5, ye6]) rfl (HQ.out _ _ (HK.out.res7 (by omega) (by omega) _ _ _ _ _ _ _) (below_set7 hbw (by omega) _ _ _ _ _ _ _))
    )
end Go.Proofs.Ytkmcnekjimobhaa
