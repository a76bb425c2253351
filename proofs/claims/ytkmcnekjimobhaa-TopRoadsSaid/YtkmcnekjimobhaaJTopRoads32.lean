/- (*maker).of: an expression made simpler. -/
import Derived.Test.YtkmcnekjimobhaaJTopRoads31
import Derived.Test.YtkmcnekjimobhaaJTopRoads26
import Derived.Test.YtkmcnekjimobhaaJTopRoads15
namespace Go.Proofs.Ytkmcnekjimobhaa
set_option maxHeartbeats 8000000
set_option maxRecDepth 100000
open Go.RowKit Go.Maps
structure CsI (f : Ex -> Ex) (mb : Nat) (mc : Bool -> Array Value) (k a b c d : Int) (t : ByteArray) (ks : List Ex) (A : Option Addr) (cp : Nat) (w : World) (V : Option Addr) (cv : Nat) (rows : Nat -> List Value) (j : Nat) (m : Bool) (W : World) : Prop where
  grown : w.grownBy W (some mb)
  mak : Blk W mb 138 (mc m)
  box : Blk W w.heap.size 37 #[.int .i64 k, .int .u64 a, .int .u64 b, .int .u64 c, .int .u64 d, .string t, .slice A ks.length cp]
  res : Blk W (w.heap.size + 1) 37 #[.int .i64 0, .int .u64 0, .int .u64 0, .int .u64 0, .int .u64 0, .string ⟨#[]⟩, .slice none 0 0]
  out : Blk W (w.heap.size + 1 + 1) 37 #[.int .i64 k, .int .u64 a, .int .u64 b, .int .u64 c, .int .u64 d, .string t, .slice V j cv]
  kids : Kids (w.heap.size + 3) W ((ks.take j).map f) V cv rows
section
variable {f : Ex -> Ex} {mb : Nat} {mc : Bool -> Array Value} {k a b c d : Int} {t : ByteArray} {ks : List Ex} {A : Option Addr} {cp : Nat} {w : World} {V : Option Addr} {cv : Nat} {rows : Nat -> List Value} {j : Nat} {m m' : Bool} {W W' : World}
theorem CsI.below (h : CsI f mb mc k a b c d t ks A cp w V cv rows j m W) (hb : Below W.heap.size W W') : CsI f mb mc k a b c d t ks A cp w V cv rows j m W' :=
  ⟨grown_below h.grown hb, h.mak.below hb h.mak.lt, h.box.below hb h.box.lt, h.res.below hb h.res.lt, h.out.below hb h.out.lt, h.kids.below hb⟩
theorem CsI.call (h : CsI f mb mc k a b c d t ks A cp w V cv rows j m W) (hmb : mb < w.heap.size) (hg : W.grownBy W' (some mb)) (hm : Blk W' mb 138 (mc m')) : CsI f mb mc k a b c d t ks A cp w V cv rows j m' W' :=
  have hne : ∀ b, w.heap.size <= b -> some b ≠ some mb := fun b hb e => by injection e with e; omega
  ⟨grown_trans h.grown hg, hm, h.box.grown hg (hne _ (by omega)), h.res.grown hg (hne _ (by omega)), h.out.grown hg (hne _ (by omega)), h.kids.but (by omega) hg⟩
theorem CsI.push {V' : Option Addr} {c' lo : Nat} {e : Ex} {r : List Value} (h : CsI f mb mc k a b c d t ks A cp w V cv rows j m W) (hmb : mb < w.heap.size) (he : ks[j]? = some e) (hlo : w.heap.size + 3 <= lo) (hold : ∀ q, (Value.slice V j cv).ownBlock = some q -> q < lo) (hE : ExF (fun b => lo <= b /\ b < W.heap.size) W.heap.size W (f e) r)
    (hown : W'.ownsRow (w.heap.size + 3) 37 7 (.slice V' (j + 1) c') (j + 1) (kdF rows j ++ r)) (hg : W.grownBy W' (Value.slice V j cv).ownBlock)
    (hat : (Value.slice V' (j + 1) c').ownBlock = (Value.slice V j cv).ownBlock \/ (Value.slice V' (j + 1) c').ownBlock = some W.heap.size) :
    CsI f mb mc k a b c d t ks A cp w V' c' (fun i => if i = j then r else rows i) (j + 1) m (W'.setCell ⟨w.heap.size + 1 + 1, 6, none⟩ (.slice V' (j + 1) c')) := by
  have hjl := getElem?_lt he
  have hl : ((ks.take j).map f).length = j := by simp; omega
  have hne : ∀ b, b < w.heap.size + 3 -> some b ≠ (Value.slice V j cv).ownBlock := fun b hb e => by
    have := h.kids.own.lt b (by rw [hl]; exact e.symm)
    omega
  have hz := h.grown.size
  have hlow : w.grownBy W' (some mb) := ⟨hg.os.trans h.grown.os, hg.tape.trans h.grown.tape, hg.output.trans h.grown.output, Nat.le_trans hz hg.size, fun q hq hn => (hg.block q (by omega) (hne q (by omega))).trans (h.grown.block q hq hn)⟩
  have hk := h.kids.push (V' := V') (c' := c') (lo := lo) (e := f e) (r := r) hlo (by rw [hl]; exact hold) hE (by rw [hl]; exact hown) (by rw [hl]; exact hg) (by rw [hl]; exact hat)
  rw [hl] at hk
  refine ⟨grown_far_set hlow (by omega) _ _, ((h.mak.grown hg (hne _ (by omega))).far (by simp; omega) _), ((h.box.grown hg (hne _ (by omega))).far (by simp; omega) _), ((h.res.grown hg (hne _ (by omega))).far (by simp) _), ((h.out.grown hg (hne _ (by omega))).set_ 6 _), ?_⟩
  rw [take_succ_of he, List.map_append, List.map_cons, List.map_nil]
  exact hk.far (by omega) _ _
end
theorem sof_any {g : List Rl} {fs : List Fa} {mb gcp fcp : Nat} {GA FA : Option Addr} {row : Nat -> List Value} (H : Fits g fs) (hlen : fs.length = g.length) (e : Ex) : GoodE g fs e -> ∀ (cs : List Value) (w : World) (m : Bool), GrIs w mb g GA gcp row -> Reads w mb 3 FA fs.length (facs fs) -> ExIs w mb e cs -> Blk w mb 138 (mkS GA FA g.length gcp fs.length fcp m) ->
    Calls Try.prog 69 #[.pointer (some ⟨mb, 0, none⟩), .agg cs.toArray] w (SimQ w.heap.size (simE g fs e).1 mb (mkS GA FA g.length gcp fs.length fcp (m || (simE g fs e).2)) w) := by
  refine Ex.ind (P := fun e => GoodE g fs e -> ∀ (cs : List Value) (w : World) (m : Bool), GrIs w mb g GA gcp row -> Reads w mb 3 FA fs.length (facs fs) -> ExIs w mb e cs -> Blk w mb 138 (mkS GA FA g.length gcp fs.length fcp m) ->
    Calls Try.prog 69 #[.pointer (some ⟨mb, 0, none⟩), .agg cs.toArray] w (SimQ w.heap.size (simE g fs e).1 mb (mkS GA FA g.length gcp fs.length fcp (m || (simE g fs e).2)) w)) ?_ e
  intro k a b c d t ks ih hgood cs w m hG hF hE hm
  obtain ⟨htl, A, cp, rfl, hkc, hcm, hnil⟩ := hE.shape
  obtain ⟨i0, hi0, hz0, hz1, hz2⟩ := info_parts expr_info
  have hml := hm.lt
  have hkp : ∀ W, w.grownBy W (some mb) -> ∀ p : Addr, p.block < mb -> W.cell? p = w.cell? p := fun W hW p hp => World.cell?_of_block (hW.block p.block (by omega) (by intro e; injection e with e; omega))
  have hcall : ∀ (j : Nat) (k' a' b' c' d' : Int) (t' : ByteArray) (ks' : List Ex) (A' : Option Addr) (cp' : Nat) (m' : Bool) (W : World), w.grownBy W (some mb) -> Blk W mb 138 (mkS GA FA g.length gcp fs.length fcp m') -> ks[j]? = some (.mk k' a' b' c' d' t' ks') -> ExIs w mb (.mk k' a' b' c' d' t' ks') (exCells k' a' b' c' d' t' A' ks'.length cp') ->
      Calls Try.prog 69 #[.pointer (some ⟨mb, 0, none⟩), .agg #[.int .i64 k', .int .u64 a', .int .u64 b', .int .u64 c', .int .u64 d', .string t', .slice A' ks'.length cp']] W (SimQ W.heap.size (simE g fs (.mk k' a' b' c' d' t' ks')).1 mb (mkS GA FA g.length gcp fs.length fcp (m' || (simE g fs (.mk k' a' b' c' d' t' ks')).2)) W) := fun j k' a' b' c' d' t' ks' A' cp' m' W hW hmW hej hx =>
    ih _ (List.mem_of_getElem? hej) (hgood.kid _ (List.mem_of_getElem? hej)) _ W m' (hG.keep (Nat.le_refl _) (hkp W hW)) (hF.keep (hkp W hW)) (hx.keep (Nat.le_refl _) (hkp W hW)) hmW
  have hlk : ∀ e ∈ ks, Lik g fs e (simE g fs e).1 := fun e he => sim_lik H e (hgood.kid e he)
  have hl5 : ∀ (W : World) (V : Option Addr) (cv : Nat) (rows : Nat -> List Value) (m' : Bool), k = 5 -> w.grownBy W (some mb) -> Blk W mb 138 (mkS GA FA g.length gcp fs.length fcp m') -> w.heap.size + 2 < W.heap.size -> Kids (w.heap.size + 3) W (ks.map fun e => (simE g fs e).1) V cv rows ->
      Calls Try.prog 97 #[.pointer (some ⟨mb, 0, none⟩), .agg #[.int .i64 k, .int .u64 a, .int .u64 b, .int .u64 c, .int .u64 d, .string t, .slice V ks.length cv]] W (SimQ (w.heap.size + 3) (topS k a b c d t (listS g fs k (ks.map fun e => (simE g fs e).1) [])).1 mb (mkS GA FA g.length gcp fs.length fcp (m' || (topS k a b c d t (listS g fs k (ks.map fun e => (simE g fs e).1) [])).2)) W) := fun W V cv rows m' h5 hW hmW hWl hK => by
    subst h5
    have hN := hK.node 5 a b c d t htl
    have h25 := hgood.five
    have hll : (ks.map fun e => (simE g fs e).1).length = ks.length := List.length_map _
    rw [hll] at hN
    exact slist5_any hN (by omega) hmW (fun x hx => by obtain ⟨e, he, rfl⟩ := List.mem_map.1 hx; exact (hlk e he).good.rt) (by omega) (by omega)
  have hl6 : ∀ (W : World) (V : Option Addr) (cv : Nat) (rows : Nat -> List Value) (m' : Bool), k = 6 -> w.grownBy W (some mb) -> Blk W mb 138 (mkS GA FA g.length gcp fs.length fcp m') -> w.heap.size + 2 < W.heap.size -> Kids (w.heap.size + 3) W (ks.map fun e => (simE g fs e).1) V cv rows ->
      Calls Try.prog 97 #[.pointer (some ⟨mb, 0, none⟩), .agg #[.int .i64 k, .int .u64 a, .int .u64 b, .int .u64 c, .int .u64 d, .string t, .slice V ks.length cv]] W (SimQ (w.heap.size + 3) (topS k a b c d t (listS g fs k (ks.map fun e => (simE g fs e).1) [])).1 mb (mkS GA FA g.length gcp fs.length fcp (m' || (topS k a b c d t (listS g fs k (ks.map fun e => (simE g fs e).1) [])).2)) W) := fun W V cv rows m' h6 hW hmW hWl hK => by
    subst h6
    have hN := hK.node 6 a b c d t htl
    have h26 := hgood.six
    have hll : (ks.map fun e => (simE g fs e).1).length = ks.length := List.length_map _
    rw [hll] at hN
    exact slist6_any hN (by omega) hmW (fun x hx => by obtain ⟨e, he, rfl⟩ := List.mem_map.1 hx; exact (hlk e he).good.rt) hlen (hG.keep (Nat.le_refl _) (hkp W hW)) (hF.keep (hkp W hW)) (by omega) (by omega)
  have hl9 : ∀ (W : World) (V : Option Addr) (cv : Nat) (rows : Nat -> List Value) (m' : Bool), 9 <= k -> k <= 11 -> Blk W mb 138 (mkS GA FA g.length gcp fs.length fcp m') -> w.heap.size + 2 < W.heap.size -> Kids (w.heap.size + 3) W (ks.map fun e => (simE g fs e).1) V cv rows ->
      Calls Try.prog 98 #[.pointer (some ⟨mb, 0, none⟩), .agg #[.int .i64 k, .int .u64 a, .int .u64 b, .int .u64 c, .int .u64 d, .string t, .slice V ks.length cv]] W (SimQ (w.heap.size + 3) (singleS (.mk k a b c d t (ks.map fun e => (simE g fs e).1))).1 mb (mkS GA FA g.length gcp fs.length fcp (m' || (singleS (.mk k a b c d t (ks.map fun e => (simE g fs e).1))).2)) W) := fun W V cv rows m' h9 h11 hmW hWl hK => by
    have hN := hK.node k a b c d t htl
    obtain ⟨x, rfl, _, _⟩ := hgood.one_kid (by omega)
    exact ssingle_any hN (by omega) hmW h9 h11
  have hK8 : ks.length <= 8 := by have := fit_cases hgood.kids.2.1; omega
  have hko : k = 5 \/ k = 6 \/ (9 <= k /\ k <= 11) \/ ¬ (k = 5 \/ k = 6 \/ (9 <= k /\ k <= 11)) := by omega
  have HC := Lib.hid hcall
  have HE := Lib.hid hE
  have HL5 := Lib.hid hl5
  have HL6 := Lib.hid hl6
  have HL9 := Lib.hid hl9
  have HKO := Lib.hid hko
  have HM := Lib.hid hm
  have hQ5 : (k = 5 \/ k = 6) -> ∀ z f r W', topS k a b c d t (listS g fs k (ks.map fun e => (simE g fs e).1) []) = (z, f) -> SimQ w.heap.size z mb (mkS GA FA g.length gcp fs.length fcp ((m || ks.any fun e => (simE g fs e).2) || f)) w r W' -> SimQ w.heap.size (simE g fs (.mk k a b c d t ks)).1 mb (mkS GA FA g.length gcp fs.length fcp (m || (simE g fs (.mk k a b c d t ks)).2)) w r W' := fun hk z f r W' h1 h2 => by
    rw [simE, if_pos hk, simEs_map, simEs_any, h1]
    rw [Bool.or_assoc] at h2
    exact h2
  have hQ9 : (9 <= k /\ k <= 11) -> ∀ z f r W', singleS (.mk k a b c d t (ks.map fun e => (simE g fs e).1)) = (z, f) -> SimQ w.heap.size z mb (mkS GA FA g.length gcp fs.length fcp ((m || ks.any fun e => (simE g fs e).2) || f)) w r W' -> SimQ w.heap.size (simE g fs (.mk k a b c d t ks)).1 mb (mkS GA FA g.length gcp fs.length fcp (m || (simE g fs (.mk k a b c d t ks)).2)) w r W' := fun hk z f r W' h1 h2 => by
    rw [simE, if_neg (by omega), if_pos hk, simEs_map, simEs_any, h1]
    rw [Bool.or_assoc] at h2
    exact h2
  have hQ0 : ¬ (k = 5 \/ k = 6 \/ (9 <= k /\ k <= 11)) -> ∀ r W', SimQ w.heap.size (.mk k a b c d t (ks.map fun e => (simE g fs e).1)) mb (mkS GA FA g.length gcp fs.length fcp (m || ks.any fun e => (simE g fs e).2)) w r W' -> SimQ w.heap.size (simE g fs (.mk k a b c d t ks)).1 mb (mkS GA FA g.length gcp fs.length fcp (m || (simE g fs (.mk k a b c d t ks)).2)) w r W' := fun hk r W' h2 => by
    rw [simE, if_neg (fun h => hk (h.elim .inl (fun h => .inr (.inl h)))), if_neg (fun h => hk (.inr (.inr h))), simEs_map, simEs_any]
    exact h2
  have HQ5 := Lib.hid hQ5
  have HQ9 := Lib.hid hQ9
  have HQ0 := Lib.hid hQ0
  generalize SimQ w.heap.size (simE g fs (.mk k a b c d t ks)).1 mb (mkS GA FA g.length gcp fs.length fcp (m || (simE g fs (.mk k a b c d t ks)).2)) w = Q at HQ5 HQ9 HQ0 ⊢
  clear ih hcall hE hl5 hl6 hl9 hko hm hQ5 hQ9 hQ0 hlk hG hF hkp hgood hlen
  unfold exCells
  unfold maxLen at hcm
  go_enter Try.func69, Try.ntmps69
  go_wp2
  go_loopw [13] (fun i wr => ∃ (j : Nat) (m' : Bool), j <= ks.length /\ i = .int .i64 j /\ Hid (m' = (m || (ks.take j).any fun e => (simE g fs e).2)) /\ ∃ V cv rows, CsI (fun e => (simE g fs e).1) mb (mkS GA FA g.length gcp fs.length fcp) k a b c d t ks A cp w V cv rows j m' wr) (fun i _ => ks.length - (intOf i).toNat)
  case atStart =>
    exact ⟨0, m, by omega, rfl, by show m = _; simp, none, 0, fun _ => [], ⟨grown_of_below bl _, ((HM.out.alloc _).alloc _).alloc _, ((blk_at rfl).alloc _).alloc _, (blk_at (by simp)).alloc _, blk_at (by simp), Kids.nil _ _⟩⟩
  case round =>
    clear HM
    obtain ⟨j, m', hj, rfl, HMM, V, cv, rows, hI⟩ := hrel
    have hgz := hI.grown.size
    by_cases hjn : j < ks.length
    · obtain ⟨ad, k', a', b', c', d', t', ks', A', cp', rfl, hab, hej, hx, hS⟩ := HE.out.kid hjn
      have hk := fun (q : Addr) (hq : q.block = (ad.add (j * 7)).block) => World.cell?_of_block (a := q) (hI.grown.block q.block (by rw [hq, add_block]; omega) (by rw [hq, add_block]; intro e; injection e with e; omega))
      have y0 := (hk _ rfl).trans hS.c0
      have y1 := (hk ⟨_, _, none⟩ rfl).trans hS.c1
      have y2 := (hk ⟨_, _, none⟩ rfl).trans hS.c2
      have y3 := (hk ⟨_, _, none⟩ rfl).trans hS.c3
      have y4 := (hk ⟨_, _, none⟩ rfl).trans hS.c4
      have y5 := (hk ⟨_, _, none⟩ rfl).trans hS.c5
      have y6 := (hk ⟨_, _, none⟩ rfl).trans hS.c6
      have had1 : ad.block < wr.heap.size := by omega
      have hjl : (j : Int) < (ks.length : Int) := by omega
      have HMS : Hid ((m' || (simE g fs (.mk k' a' b' c' d' t' ks')).2) = (m || (ks.take (j + 1)).any fun e => (simE g fs e).2)) := by
        show _ = _
        rw [take_succ_of hej, List.any_append, List.any_cons, List.any_nil, Bool.or_false, HMM.out, Bool.or_assoc]
      clear hk hS HMM
      have hC0 : KdC (w.heap.size + 1 + 1) wr.heap.size #[.int .i64 k, .int .u64 a, .int .u64 b, .int .u64 c, .int .u64 d, .string t, .slice V j cv] #[.int .i64 k', .int .u64 a', .int .u64 b', .int .u64 c', .int .u64 d', .string t', .slice A' ks'.length cp'] (wr.alloc (.cells #[.int .i64 k', .int .u64 a', .int .u64 b', .int .u64 c', .int .u64 d', .string t', .slice A' ks'.length cp'] 37)) := ⟨hI.out.alloc _, blk_at rfl⟩
      have hI1 := hI.below ((Below.refl _ wr).alloc (Nat.le_refl _) (.cells #[.int .i64 k', .int .u64 a', .int .u64 b', .int .u64 c', .int .u64 d', .string t', .slice A' ks'.length cp'] 37))
      have hold : ∀ q, (Value.slice V j cv).ownBlock = some q -> q < wr.heap.size := fun q hq => hI.kids.old q (by simpa [Nat.min_eq_left hj] using hq)
      have hbase : w.heap.size + 3 <= wr.heap.size := by have := hI.out.lt; omega
      have HOLD := Lib.hid hold
      have HEJ := Lib.hid hej
      have HX := Lib.hid hx
      clear hej hx hold hI
      go_upto_region 6 with fail
      have hkne : some wr.heap.size ≠ (Value.slice V j cv).ownBlock := fun e => by have := HOLD.out _ e.symm; omega
      have hone : some (w.heap.size + 1 + 1) ≠ (Value.slice V j cv).ownBlock := fun e => by have h1 := hI1.kids.own.lt (w.heap.size + 1 + 1) (by simpa [Nat.min_eq_left hj] using e.symm); omega
      have hbase1 : w.heap.size + 3 <= (wr.alloc (.cells #[.int .i64 k', .int .u64 a', .int .u64 b', .int .u64 c', .int .u64 d', .string t', .slice A' ks'.length cp'] 37)).heap.size := by simp; omega
      have hold1 : ∀ q, (Value.slice V j cv).ownBlock = some q -> q < (wr.alloc (.cells #[.int .i64 k', .int .u64 a', .int .u64 b', .int .u64 c', .int .u64 d', .string t', .slice A' ks'.length cp'] 37)).heap.size := fun q hq => by have := HOLD.out q hq; simp; omega
      have hkmb : some wr.heap.size ≠ some mb := fun e => by injection e with e; omega
      generalize (wr.alloc (.cells #[.int .i64 k', .int .u64 a', .int .u64 b', .int .u64 c', .int .u64 d', .string t', .slice A' ks'.length cp'] 37)) = w11 at hC0 hI1 hbase1 hold1 ⊢
      generalize wr.heap.size = kb at hC0 hkne hkmb ⊢
      clear y0 y1 y2 y3 y4 y5 y6 had1
      refine wp_region_l (KdC (w.heap.size + 1 + 1) kb #[.int .i64 k, .int .u64 a, .int .u64 b, .int .u64 c, .int .u64 d, .string t, .slice V j cv] #[.int .i64 k', .int .u64 a', .int .u64 b', .int .u64 c', .int .u64 d', .string t', .slice A' ks'.length cp']) (· == 8) (by kernel_rfl) ?_
      have hC := hC0.below (Below.refl _ _).drew
      have hI := hI1.below (Below.refl _ _).drew
      have hbd : (w11.drew).heap.size = w11.heap.size := rfl
      rw [<- hbd] at hbase1 hold1
      generalize w11.drew = wd at hC hI hbase1 hold1 ⊢
      clear hC0 hI1 hbd
      apply L.rd (i := 0) rfl (by kernel_rfl) hC rfl
      · intro W hW
        skip
        unfold readW
        go_simp
        first | rfl | exact ⟨rfl, rfl⟩
      first | simp only [Act.put, p1, p2, p3] | skip
      apply L.rd (i := 1) rfl (by kernel_rfl) hC rfl
      · intro W hW
        have n0 := hW.out.cell 6
        unfold readW
        go_simp
        first | rfl | exact ⟨rfl, rfl⟩
      first | simp only [Act.put, p1, p2, p3] | skip
      apply L.rd (i := 2) rfl (by kernel_rfl) hC rfl
      · intro W hW
        skip
        unfold readW
        go_simp
        first | rfl | exact ⟨rfl, rfl⟩
      first | simp only [Act.put, p1, p2, p3] | skip
      apply L.rd (i := 3) rfl (by kernel_rfl) hC rfl
      · intro W hW
        have r0 := hW.kid.cell 0; have r1 := hW.kid.cell 1; have r2 := hW.kid.cell 2; have r3 := hW.kid.cell 3; have r4 := hW.kid.cell 4; have r5 := hW.kid.cell 5; have r6 := hW.kid.cell 6
        unfold readW
        go_simp
        first | rfl | exact ⟨rfl, rfl⟩
      first | simp only [Act.put, p1, p2, p3] | skip
      apply L.one (i := 4) rfl (by kernel_rfl) rfl
      unfold stepT
      go_simp
      go_at_call 69
      refine (HC.out _ _ _ _ _ _ _ _ _ _ _ _ hI.grown hI.mak HEJ.out HX.out).mono ?_
      rintro e wn ⟨⟨rc, rfl, hF⟩, hgn, hmn⟩
      have hC := hC.grown hgn (fun e => by injection e with e; omega) hkmb
      have hI := hI.call hml hgn hmn
      have hbase2 := Nat.le_trans hbase1 hgn.size
      clear hgn hmn
      have hrc := ex_one' hF.is
      obtain ⟨k1, a1, b1, c1, d1, t1, A1, n1, cp1, rfl⟩ := Ex.parts _ hF.is
      refine ⟨_, rfl, hC, ?_⟩
      first | simp only [Act.put, p1, p2, p3] | skip
      apply L.one (i := 5) rfl (by kernel_rfl) rfl
      unfold stepT
      go_simp
      have hF1 := (hF.keep (W' := wn.alloc (.cells #[.int .i64 k1, .int .u64 a1, .int .u64 b1, .int .u64 c1, .int .u64 d1, .string t1, .slice A1 n1 cp1] 37)) fun p hp => World.cell?_alloc_lt wn _ p hp.2).mono (S' := fun b => wd.heap.size <= b /\ b < (wn.alloc (.cells #[.int .i64 k1, .int .u64 a1, .int .u64 b1, .int .u64 c1, .int .u64 d1, .string t1, .slice A1 n1 cp1] 37)).heap.size) (fun b hb => ⟨hb.1, by simp; omega⟩) (hi' := (wn.alloc (.cells #[.int .i64 k1, .int .u64 a1, .int .u64 b1, .int .u64 c1, .int .u64 d1, .string t1, .slice A1 n1 cp1] 37)).heap.size) (by simp)
      have hkb : Blk (wn.alloc (.cells #[.int .i64 k1, .int .u64 a1, .int .u64 b1, .int .u64 c1, .int .u64 d1, .string t1, .slice A1 n1 cp1] 37)) wn.heap.size 37 #[.int .i64 k1, .int .u64 a1, .int .u64 b1, .int .u64 c1, .int .u64 d1, .string t1, .slice A1 n1 cp1] := blk_at rfl
      have hC := hC.below ((Below.refl _ _).alloc (Nat.le_refl _) (.cells #[.int .i64 k1, .int .u64 a1, .int .u64 b1, .int .u64 c1, .int .u64 d1, .string t1, .slice A1 n1 cp1] 37))
      have hI := hI.below ((Below.refl _ _).alloc (Nat.le_refl _) (.cells #[.int .i64 k1, .int .u64 a1, .int .u64 b1, .int .u64 c1, .int .u64 d1, .string t1, .slice A1 n1 cp1] 37))
      have hbase3 : w.heap.size + 3 <= (wn.alloc (.cells #[.int .i64 k1, .int .u64 a1, .int .u64 b1, .int .u64 c1, .int .u64 d1, .string t1, .slice A1 n1 cp1] 37)).heap.size := by simp; omega
      generalize (wn.alloc (.cells #[.int .i64 k1, .int .u64 a1, .int .u64 b1, .int .u64 c1, .int .u64 d1, .string t1, .slice A1 n1 cp1] 37)) = wk at hC hI hkb hF1 hbase3 ⊢
      generalize wn.heap.size = nb at hkb ⊢
      clear hF hbase2
      refine ⟨hC, ?_⟩
      apply L.one (i := 6) rfl (by kernel_rfl) rfl
      refine stepT_append_at (.tmp 18) (.tmp 22) 35 rfl (w.heap.size + 3) 37 i0 _ 7 80 Try.underlying35 hi0 hz0 hz1 hz2 rfl (by decide) (.slice V j cv) j (kdF rows j) (by simp [Act.eval]) (by simpa [Nat.min_eq_left hj] using hI.kids.own) ⟨nb, 0, none⟩ 1 1 [.int .i64 k1, .int .u64 a1, .int .u64 b1, .int .u64 c1, .int .u64 d1, .string t1, .slice A1 n1 cp1] (by simp [Act.eval]) rfl (fun i u hu => by rw [cell_add]; exact (hkb.cell i).trans (by rw [List.getElem?_toArray]; exact hu)) hrc (by unfold maxLen; omega) (by omega) hbase3 ?_
      intro v' w3 hown hgr hat
      obtain ⟨V3, c3, rfl⟩ := own_form hown
      have hI3 := hI.push hml HEJ.out hbase1 hold1 hF1 hown hgr hat
      have hC := hC.grown hgr hone hkne
      refine ⟨fun _ => hC, ?_⟩
      first | simp only [Act.put, p1, p2, p3] | skip
      apply L.rd (i := 7) rfl (by kernel_rfl) hC rfl
      · intro W hW
        skip
        unfold readW
        go_simp
        first | rfl | exact ⟨rfl, rfl⟩
      first | simp only [Act.put, p1, p2, p3] | skip
      have n0 := hC.out.cell 6
      have f0 := hC.out.frozen 6
      apply L.one (i := 8) rfl (by kernel_rfl) rfl
      unfold stepT
      go_simp
      refine L.done (by kernel_rfl) ?_
      have HI3 := Lib.hid hI3
      clear hI hI3 hC hown hgr hkb n0 f0 hat hF1 hold1 hbase1 hbase3 hkne hone hkmb
      go_wp2
      go_roundw
      case rel => exact ⟨j + 1, _, by omega, by go_num, HMS.out, _, _, _, HI3.out⟩
      case measure => simp [intOf]; omega
    · obtain rfl : j = ks.length := by omega
      have hmm := HMM.out
      rw [List.take_length] at hmm
      subst hmm
      have hKD := hI.kids
      rw [List.take_length] at hKD
      have hrs := hI.res
      have hwz := hI.out.lt
      have hgr := hI.grown
      have hmk := hI.mak
      have ho := hI.out
      have xk : wr.cell? ⟨w.heap.size, 0, none⟩ = some (.int .i64 k) := hI.box.cell 0
      have x0 : wr.cell? ⟨w.heap.size + 1 + 1, 0, none⟩ = some (.int .i64 k) := ho.cell 0; have x1 : wr.cell? ⟨w.heap.size + 1 + 1, 1, none⟩ = some (.int .u64 a) := ho.cell 1; have x2 : wr.cell? ⟨w.heap.size + 1 + 1, 2, none⟩ = some (.int .u64 b) := ho.cell 2; have x3 : wr.cell? ⟨w.heap.size + 1 + 1, 3, none⟩ = some (.int .u64 c) := ho.cell 3; have x4 : wr.cell? ⟨w.heap.size + 1 + 1, 4, none⟩ = some (.int .u64 d) := ho.cell 4; have x5 : wr.cell? ⟨w.heap.size + 1 + 1, 5, none⟩ = some (.string t) := ho.cell 5; have x6 : wr.cell? ⟨w.heap.size + 1 + 1, 6, none⟩ = some (.slice V ks.length cv) := ho.cell 6
      clear hI HMM HC HE ho
      rcases HKO.out with rfl | rfl | h9 | h0
      · have hL := HL5.out wr V cv rows _ rfl hgr hmk (by omega) hKD
        have hzf0 : ∃ x, topS 5 a b c d t (listS g fs 5 (ks.map fun e => (simE g fs e).1) []) = x := ⟨_, rfl⟩
        obtain ⟨⟨z, f⟩, hzf⟩ := hzf0
        rw [hzf] at hL
        have HZ := Lib.hid hzf
        have HLL := Lib.hid hL
        clear hL hzf HL5 HL6 HL9 hKD
        go_wp2_with fail
        refine HLL.out.mono ?_
        rintro r w2 ⟨⟨cs2, rfl, hF2⟩, hg2, hm2⟩
        obtain ⟨k1, a1, b1, c1, d1, t1, A1, n1, cp1, rfl⟩ := Ex.parts _ hF2.is
        have hrs2 := hrs.grown hg2 (fun e => by injection e with e; omega)
        have hgw := grown_trans hgr hg2
        have hz2w := hg2.size
        have hsi := fun u0 u1 u2 u3 u4 u5 u6 => HQ5.out (by simp) z f _ _ HZ.out (sim_end (S := fun b => w.heap.size + 3 <= b /\ b < w2.heap.size) (lo := w.heap.size) (rb := w.heap.size + 1) (hi := w2.heap.size) (cs := exCells k1 a1 b1 c1 d1 t1 A1 n1 cp1) hF2 (fun b hb => ⟨by have := hb.1; omega, hb.2, by have := hb.1; omega⟩) (Nat.le_refl _) hgw (by omega) hm2 (by omega) u0 u1 u2 u3 u4 u5 u6)
        clear x0 x1 x2 x3 x4 x5 x6 xk hF2 hg2 hm2 hgr hmk hrs HQ5 HQ9 HQ0
        obtain ⟨yz0, yz1, yz2, yz3, yz4, yz5, yz6, yf0, yf1, yf2, yf3, yf4, yf5, yf6, ye0, ye1, ye2, ye3, ye4, ye5, ye6⟩ := st7 hrs2 (.int .i64 k1) (.int .u64 a1) (.int .u64 b1) (.int .u64 c1) (.int .u64 d1) (.string t1) (.slice A1 n1 cp1)
        have HSJ := Lib.hid hsi
        clear hsi hgw
        go_wp2
        exact bodyPost_ret (v := .agg #[.int .i64 k1, .int .u64 a1, .int .u64 b1, .int .u64 c1, .int .u64 d1, .string t1, .slice A1 n1 cp1]) (by simp [results, Try.results69, go_sem, ye0, ye1, ye2, ye3, ye4, ye5, ye6]) rfl (HSJ.out _ _ _ _ _ _ _)
      · have hL := HL6.out wr V cv rows _ rfl hgr hmk (by omega) hKD
        have hzf0 : ∃ x, topS 6 a b c d t (listS g fs 6 (ks.map fun e => (simE g fs e).1) []) = x := ⟨_, rfl⟩
        obtain ⟨⟨z, f⟩, hzf⟩ := hzf0
        rw [hzf] at hL
        have HZ := Lib.hid hzf
        have HLL := Lib.hid hL
        clear hL hzf HL5 HL6 HL9 hKD
        go_wp2_with fail
        refine HLL.out.mono ?_
        rintro r w2 ⟨⟨cs2, rfl, hF2⟩, hg2, hm2⟩
        obtain ⟨k1, a1, b1, c1, d1, t1, A1, n1, cp1, rfl⟩ := Ex.parts _ hF2.is
        have hrs2 := hrs.grown hg2 (fun e => by injection e with e; omega)
        have hgw := grown_trans hgr hg2
        have hz2w := hg2.size
        have hsi := fun u0 u1 u2 u3 u4 u5 u6 => HQ5.out (by simp) z f _ _ HZ.out (sim_end (S := fun b => w.heap.size + 3 <= b /\ b < w2.heap.size) (lo := w.heap.size) (rb := w.heap.size + 1) (hi := w2.heap.size) (cs := exCells k1 a1 b1 c1 d1 t1 A1 n1 cp1) hF2 (fun b hb => ⟨by have := hb.1; omega, hb.2, by have := hb.1; omega⟩) (Nat.le_refl _) hgw (by omega) hm2 (by omega) u0 u1 u2 u3 u4 u5 u6)
        clear x0 x1 x2 x3 x4 x5 x6 xk hF2 hg2 hm2 hgr hmk hrs HQ5 HQ9 HQ0
        obtain ⟨yz0, yz1, yz2, yz3, yz4, yz5, yz6, yf0, yf1, yf2, yf3, yf4, yf5, yf6, ye0, ye1, ye2, ye3, ye4, ye5, ye6⟩ := st7 hrs2 (.int .i64 k1) (.int .u64 a1) (.int .u64 b1) (.int .u64 c1) (.int .u64 d1) (.string t1) (.slice A1 n1 cp1)
        have HSJ := Lib.hid hsi
        clear hsi hgw
        go_wp2
        exact bodyPost_ret (v := .agg #[.int .i64 k1, .int .u64 a1, .int .u64 b1, .int .u64 c1, .int .u64 d1, .string t1, .slice A1 n1 cp1]) (by simp [results, Try.results69, go_sem, ye0, ye1, ye2, ye3, ye4, ye5, ye6]) rfl (HSJ.out _ _ _ _ _ _ _)
      · have hk3 : k = 9 \/ k = 10 \/ k = 11 := by omega
        clear h9
        rcases hk3 with rfl | rfl | rfl
        · have hL := HL9.out wr V cv rows _ (by decide) (by decide) hmk (by omega) hKD
          have hzf0 : ∃ x, singleS (.mk 9 a b c d t (ks.map fun e => (simE g fs e).1)) = x := ⟨_, rfl⟩
          obtain ⟨⟨z, f⟩, hzf⟩ := hzf0
          rw [hzf] at hL
          have HZ := Lib.hid hzf
          have HLL := Lib.hid hL
          clear hL hzf HL5 HL6 HL9 hKD
          go_wp2_with fail
          refine HLL.out.mono ?_
          rintro r w2 ⟨⟨cs2, rfl, hF2⟩, hg2, hm2⟩
          obtain ⟨k1, a1, b1, c1, d1, t1, A1, n1, cp1, rfl⟩ := Ex.parts _ hF2.is
          have hrs2 := hrs.grown hg2 (fun e => by injection e with e; omega)
          have hgw := grown_trans hgr hg2
          have hz2w := hg2.size
          have hsi := fun u0 u1 u2 u3 u4 u5 u6 => HQ9.out (by decide) z f _ _ HZ.out (sim_end (S := fun b => w.heap.size + 3 <= b /\ b < w2.heap.size) (lo := w.heap.size) (rb := w.heap.size + 1) (hi := w2.heap.size) (cs := exCells k1 a1 b1 c1 d1 t1 A1 n1 cp1) hF2 (fun b hb => ⟨by have := hb.1; omega, hb.2, by have := hb.1; omega⟩) (Nat.le_refl _) hgw (by omega) hm2 (by omega) u0 u1 u2 u3 u4 u5 u6)
          clear x0 x1 x2 x3 x4 x5 x6 xk hF2 hg2 hm2 hgr hmk hrs HQ5 HQ9 HQ0
          obtain ⟨yz0, yz1, yz2, yz3, yz4, yz5, yz6, yf0, yf1, yf2, yf3, yf4, yf5, yf6, ye0, ye1, ye2, ye3, ye4, ye5, ye6⟩ := st7 hrs2 (.int .i64 k1) (.int .u64 a1) (.int .u64 b1) (.int .u64 c1) (.int .u64 d1) (.string t1) (.slice A1 n1 cp1)
          have HSJ := Lib.hid hsi
          clear hsi hgw
          go_wp2
          exact bodyPost_ret (v := .agg #[.int .i64 k1, .int .u64 a1, .int .u64 b1, .int .u64 c1, .int .u64 d1, .string t1, .slice A1 n1 cp1]) (by simp [results, Try.results69, go_sem, ye0, ye1, ye2, ye3, ye4, ye5, ye6]) rfl (HSJ.out _ _ _ _ _ _ _)
        · have hL := HL9.out wr V cv rows _ (by decide) (by decide) hmk (by omega) hKD
          have hzf0 : ∃ x, singleS (.mk 10 a b c d t (ks.map fun e => (simE g fs e).1)) = x := ⟨_, rfl⟩
          obtain ⟨⟨z, f⟩, hzf⟩ := hzf0
          rw [hzf] at hL
          have HZ := Lib.hid hzf
          have HLL := Lib.hid hL
          clear hL hzf HL5 HL6 HL9 hKD
          go_wp2_with fail
          refine HLL.out.mono ?_
          rintro r w2 ⟨⟨cs2, rfl, hF2⟩, hg2, hm2⟩
          obtain ⟨k1, a1, b1, c1, d1, t1, A1, n1, cp1, rfl⟩ := Ex.parts _ hF2.is
          have hrs2 := hrs.grown hg2 (fun e => by injection e with e; omega)
          have hgw := grown_trans hgr hg2
          have hz2w := hg2.size
          have hsi := fun u0 u1 u2 u3 u4 u5 u6 => HQ9.out (by decide) z f _ _ HZ.out (sim_end (S := fun b => w.heap.size + 3 <= b /\ b < w2.heap.size) (lo := w.heap.size) (rb := w.heap.size + 1) (hi := w2.heap.size) (cs := exCells k1 a1 b1 c1 d1 t1 A1 n1 cp1) hF2 (fun b hb => ⟨by have := hb.1; omega, hb.2, by have := hb.1; omega⟩) (Nat.le_refl _) hgw (by omega) hm2 (by omega) u0 u1 u2 u3 u4 u5 u6)
          clear x0 x1 x2 x3 x4 x5 x6 xk hF2 hg2 hm2 hgr hmk hrs HQ5 HQ9 HQ0
          obtain ⟨yz0, yz1, yz2, yz3, yz4, yz5, yz6, yf0, yf1, yf2, yf3, yf4, yf5, yf6, ye0, ye1, ye2, ye3, ye4, ye5, ye6⟩ := st7 hrs2 (.int .i64 k1) (.int .u64 a1) (.int .u64 b1) (.int .u64 c1) (.int .u64 d1) (.string t1) (.slice A1 n1 cp1)
          have HSJ := Lib.hid hsi
          clear hsi hgw
          go_wp2
          exact bodyPost_ret (v := .agg #[.int .i64 k1, .int .u64 a1, .int .u64 b1, .int .u64 c1, .int .u64 d1, .string t1, .slice A1 n1 cp1]) (by simp [results, Try.results69, go_sem, ye0, ye1, ye2, ye3, ye4, ye5, ye6]) rfl (HSJ.out _ _ _ _ _ _ _)
        · have hL := HL9.out wr V cv rows _ (by decide) (by decide) hmk (by omega) hKD
          have hzf0 : ∃ x, singleS (.mk 11 a b c d t (ks.map fun e => (simE g fs e).1)) = x := ⟨_, rfl⟩
          obtain ⟨⟨z, f⟩, hzf⟩ := hzf0
          rw [hzf] at hL
          have HZ := Lib.hid hzf
          have HLL := Lib.hid hL
          clear hL hzf HL5 HL6 HL9 hKD
          go_wp2_with fail
          refine HLL.out.mono ?_
          rintro r w2 ⟨⟨cs2, rfl, hF2⟩, hg2, hm2⟩
          obtain ⟨k1, a1, b1, c1, d1, t1, A1, n1, cp1, rfl⟩ := Ex.parts _ hF2.is
          have hrs2 := hrs.grown hg2 (fun e => by injection e with e; omega)
          have hgw := grown_trans hgr hg2
          have hz2w := hg2.size
          have hsi := fun u0 u1 u2 u3 u4 u5 u6 => HQ9.out (by decide) z f _ _ HZ.out (sim_end (S := fun b => w.heap.size + 3 <= b /\ b < w2.heap.size) (lo := w.heap.size) (rb := w.heap.size + 1) (hi := w2.heap.size) (cs := exCells k1 a1 b1 c1 d1 t1 A1 n1 cp1) hF2 (fun b hb => ⟨by have := hb.1; omega, hb.2, by have := hb.1; omega⟩) (Nat.le_refl _) hgw (by omega) hm2 (by omega) u0 u1 u2 u3 u4 u5 u6)
          clear x0 x1 x2 x3 x4 x5 x6 xk hF2 hg2 hm2 hgr hmk hrs HQ5 HQ9 HQ0
          obtain ⟨yz0, yz1, yz2, yz3, yz4, yz5, yz6, yf0, yf1, yf2, yf3, yf4, yf5, yf6, ye0, ye1, ye2, ye3, ye4, ye5, ye6⟩ := st7 hrs2 (.int .i64 k1) (.int .u64 a1) (.int .u64 b1) (.int .u64 c1) (.int .u64 d1) (.string t1) (.slice A1 n1 cp1)
          have HSJ := Lib.hid hsi
          clear hsi hgw
          go_wp2
          exact bodyPost_ret (v := .agg #[.int .i64 k1, .int .u64 a1, .int .u64 b1, .int .u64 c1, .int .u64 d1, .string t1, .slice A1 n1 cp1]) (by simp [results, Try.results69, go_sem, ye0, ye1, ye2, ye3, ye4, ye5, ye6]) rfl (HSJ.out _ _ _ _ _ _ _)
      · have n5 : (k == 5) = false := by rw [beq_eq_false_iff_ne]; omega
        have n6 : (k == 6) = false := by rw [beq_eq_false_iff_ne]; omega
        have n9 : (k == 9) = false := by rw [beq_eq_false_iff_ne]; omega
        have n10 : (k == 10) = false := by rw [beq_eq_false_iff_ne]; omega
        have n11 : (k == 11) = false := by rw [beq_eq_false_iff_ne]; omega
        have hN := hKD.node k a b c d t htl
        have hll : (ks.map fun e => (simE g fs e).1).length = ks.length := List.length_map _
        rw [hll] at hN
        have hsi := fun u0 u1 u2 u3 u4 u5 u6 => HQ0.out h0 _ _ (sim_end (S := fun b => w.heap.size + 3 <= b /\ b < wr.heap.size) (lo := w.heap.size) (rb := w.heap.size + 1) (hi := wr.heap.size) (cs := exCells k a b c d t V ks.length cv) hN (fun b hb => ⟨by have := hb.1; omega, hb.2, by have := hb.1; omega⟩) (Nat.le_refl _) hgr (by omega) hmk (by omega) u0 u1 u2 u3 u4 u5 u6)
        clear hN HL5 HL6 HL9 hKD hgr hmk HQ5 HQ9 HQ0 h0
        obtain ⟨yz0, yz1, yz2, yz3, yz4, yz5, yz6, yf0, yf1, yf2, yf3, yf4, yf5, yf6, ye0, ye1, ye2, ye3, ye4, ye5, ye6⟩ := st7 hrs (.int .i64 k) (.int .u64 a) (.int .u64 b) (.int .u64 c) (.int .u64 d) (.string t) (.slice V ks.length cv)
        have HSJ := Lib.hid hsi
        clear hsi
        go_wp2
        exact bodyPost_ret (v := .agg #[.int .i64 k, .int .u64 a, .int .u64 b, .int .u64 c, .int .u64 d, .string t, .slice V ks.length cv]) (by simp [results, Try.results69, go_sem, ye0, ye1, ye2, ye3, ye4, ye5, ye6]) rfl (HSJ.out _ _ _ _ _ _ _)
end Go.Proofs.Ytkmcnekjimobhaa
