/- What expr.Refs answers. What gram.Check answers. A region that draws its order, walked in the order of the text: the two steps of such a walk at whatever class of worlds. A region that draws its order: operations that are quiet in a class of worlds, and behind them all a chain of others (a store at the end): one walk of the text's order serves. well.star, well.then, well.or. What well.of says, plain; facts in memory; the closure of well.of. -/
import Derived.Test.YtndhbdbfjkmloaaJTopTree1
import Derived.Deep.QuietTactic
import Derived.StillTail
namespace Go.Proofs.Ytndhbdbfjkmloaa
open Go.RowKit Go.Shelf

attribute [local go_sem] Oper.semAt_some

theorem info_string : (Try.prog.info? 9).map (fun i => (i.zero, i.size, i.bytes)) = some (some (.string ByteArray.empty), 1, 16) := by kernel_rfl
theorem zero_int (w : World) : (zeroValue 3).run Try.prog w = .ok (.int .i64 0) w := by kernel_rfl

/-- what expr.Refs answers: the names, or what is wrong -/
def RefsQ (w : World) (e : Ex) (e' : Ending) (w' : World) : Prop := ∃ A n cp ls, e' = .returned (.tuple #[.slice A n cp, .int .i64 (checkE e)]) ∧ ls = (if checkE e = 0 then refsE e else []) ∧ Reads w' w'.heap.size 1 A n (ls.map Value.string) ∧ Below w.heap.size w w'

set_option maxRecDepth 100000 in
set_option maxHeartbeats 4000000 in
theorem refs_any (e : Ex) (cs : List Value) (w : World) (hE : ExIs w w.heap.size e cs) : Calls Try.prog 66 #[.agg cs.toArray] w (RefsQ w e) := by
  have hro : Fence.wide.round = none := rfl
  have hd : Fence.wide.depth = none := rfl
  have hmm := @run_makeMap Try.prog
  obtain ⟨i0, hi, hz0, hz1, hz2⟩ := info_parts info_string
  have hck := fun W (hW : Below w.heap.size w W) => check_expr e cs W (hE.keep hW.size (fun p hp => hW.cell hp))
  have HCK := Lib.hid hck
  clear hck
  have HE := Lib.hid hE
  cases e with
  | mk k a b c d t ks =>
  obtain ⟨ht, A, cp, rfl, hkc, hcm, _⟩ := hE.shape
  unfold exCells at *
  clear hE
  refine (callsIn_wide (n := 5)).1 ?_
  by_cases h0 : checkE (.mk k a b c d t ks) = 0
  · have h60 := nodes_le h0
    have HQ : Hid ((if checkE (.mk k a b c d t ks) = 0 then refsE (.mk k a b c d t ks) else []) = refsE (.mk k a b c d t ks)) := if_pos h0
    rw [h0] at HCK
    have H0 := Lib.hid h0
    clear h0
    refine callsIn_of_wp_marks Try.func66 rfl trivial ?_ hro
    simp only [Try.ntmps66, List.size_toArray, List.length_cons, List.length_nil, Nat.reduceAdd, Nat.reduceSub, Array.replicate_succ, Array.replicate_zero, List.push_toArray, List.append_toArray, List.nil_append, List.cons_append]
    gi_wp2_with (first
      | (refine ⟨trivial, ?_⟩; gi_at_call 17; refine (callsIn_wide.2 (HCK.out _ (by repeat (first | exact Below.refl _ _ | assumption | refine Below.drew ?_ | refine below_drewN ?_ _ | refine Below.alloc ?_ (by first | omega | (simp; omega) | simp) _ | refine Below.setCell ?_ (by first | omega | (simp; omega) | simp) _)))).mono ?_; rintro e w1 ⟨rfl, hb1⟩; have hbx : Blk (((w1.alloc (.cells #[.slice none 0 0] 132)).alloc (.map #[] 0)).alloc (.cells #[.map (some (w1.heap.size + 1))] 148)) w.heap.size 27 #[.int .i64 k, .int .u64 a, .int .u64 b, .int .u64 c, .int .u64 d, .string t, .slice A ks.length cp] := (((((blk_at rfl).below hb1 (by simp)).alloc _).alloc _).alloc _); have x0 : (((w1.alloc (.cells #[.slice none 0 0] 132)).alloc (.map #[] 0)).alloc (.cells #[.map (some (w1.heap.size + 1))] 148)).cell? ⟨w.heap.size, 0, none⟩ = some (.int .i64 k) := hbx.cell 0; have x1 : (((w1.alloc (.cells #[.slice none 0 0] 132)).alloc (.map #[] 0)).alloc (.cells #[.map (some (w1.heap.size + 1))] 148)).cell? ⟨w.heap.size, 1, none⟩ = some (.int .u64 a) := hbx.cell 1; have x2 : (((w1.alloc (.cells #[.slice none 0 0] 132)).alloc (.map #[] 0)).alloc (.cells #[.map (some (w1.heap.size + 1))] 148)).cell? ⟨w.heap.size, 2, none⟩ = some (.int .u64 b) := hbx.cell 2; have x3 : (((w1.alloc (.cells #[.slice none 0 0] 132)).alloc (.map #[] 0)).alloc (.cells #[.map (some (w1.heap.size + 1))] 148)).cell? ⟨w.heap.size, 3, none⟩ = some (.int .u64 c) := hbx.cell 3; have x4 : (((w1.alloc (.cells #[.slice none 0 0] 132)).alloc (.map #[] 0)).alloc (.cells #[.map (some (w1.heap.size + 1))] 148)).cell? ⟨w.heap.size, 4, none⟩ = some (.int .u64 d) := hbx.cell 4; have x5 : (((w1.alloc (.cells #[.slice none 0 0] 132)).alloc (.map #[] 0)).alloc (.cells #[.map (some (w1.heap.size + 1))] 148)).cell? ⟨w.heap.size, 5, none⟩ = some (.string t) := hbx.cell 5; have x6 : (((w1.alloc (.cells #[.slice none 0 0] 132)).alloc (.map #[] 0)).alloc (.cells #[.map (some (w1.heap.size + 1))] 148)).cell? ⟨w.heap.size, 6, none⟩ = some (.slice A ks.length cp) := hbx.cell 6)
      | (refine ⟨trivial, ?_⟩; gi_at_call 81; refine (allf_in Fence.wide _ trivial hro _ _ _ _ _ _ _ _ _ _).mono ?_; rintro e w2 ⟨rfl, rfl⟩))
    clear x0 x1 x2 x3 x4 x5 x6 hbx
    have hzz : w.heap.size < w1.heap.size := by have := hb1.size; simp at this; omega
    have hw1 : Below w.heap.size w w1 := ((Below.refl _ w).alloc (Nat.le_refl _) _).trans (hb1.mono (by simp))
    have bO := (((Boxed.new w1 132 (.slice none 0 0)).alloc (.map #[] 0)).alloc (.cells #[.map (some (w1.heap.size + 1))] 148)).alloc (.cells #[.int .i64 k, .int .u64 a, .int .u64 b, .int .u64 c, .int .u64 d, .string t, .slice A ks.length cp] 27)
    have hm0 := ((World.ownsMap_made (w1.alloc (.cells #[.slice none 0 0] 132)) Try.prog 9 (plainElem (H := Unit) Try.prog 3)).alloc (.cells #[.map (some (w1.heap.size + 1))] 148)).alloc (.cells #[.int .i64 k, .int .u64 a, .int .u64 b, .int .u64 c, .int .u64 d, .string t, .slice A ks.length cp] 27)
    have bM := (Boxed.new ((w1.alloc (.cells #[.slice none 0 0] 132)).alloc (.map #[] 0)) 148 (.map (some (w1.heap.size + 1)))).alloc (.cells #[.int .i64 k, .int .u64 a, .int .u64 b, .int .u64 c, .int .u64 d, .string t, .slice A ks.length cp] 27)
    have bE : Blk ((((w1.alloc (.cells #[.slice none 0 0] 132)).alloc (.map #[] 0)).alloc (.cells #[.map (some (w1.heap.size + 1))] 148)).alloc (.cells #[.int .i64 k, .int .u64 a, .int .u64 b, .int .u64 c, .int .u64 d, .string t, .slice A ks.length cp] 27)) (w1.heap.size + 1 + 1 + 1) 27 #[.int .i64 k, .int .u64 a, .int .u64 b, .int .u64 c, .int .u64 d, .string t, .slice A ks.length cp] := blk_at (by simp)
    simp only [World.size_alloc] at bO hm0 bM bE
    have hB0 : Below w.heap.size w ((((w1.alloc (.cells #[.slice none 0 0] 132)).alloc (.map #[] 0)).alloc (.cells #[.map (some (w1.heap.size + 1))] 148)).alloc (.cells #[.int .i64 k, .int .u64 a, .int .u64 b, .int .u64 c, .int .u64 d, .string t, .slice A ks.length cp] 27)) := (((hw1.alloc (by omega) _).alloc (by simp; omega) _).alloc (by simp; omega) _).alloc (by simp; omega) _
    refine wpIn_rangeFunc_ownH hro (by omega) (gf := 90) (lb := #[.pointer (some ⟨w1.heap.size + 1 + 1 + 1, 0, none⟩)]) rfl trivial (enters_of Try.func90 (by kernel_rfl) rfl)
      (all_stops Fence.wide hd (5 - 1) trivial trivial hro (w1.heap.size + 1 + 1 + 1) w.heap.size (.mk k a b c d t ks) _ _ (by simp; omega) bE (HE.out.on hB0)) KeepE.trans (keepE_put (by simp; omega)) (Below.refl _ _) (fun _ => rfl)
      (fun pre W => ((∃ v, Boxed W w1.heap.size 132 v ∧ W.ownsRow w.heap.size 9 1 v (refsL (pre.map Nd.kt)).length ((refsL (pre.map Nd.kt)).map Value.string) ∧ True) ∧
        Boxed W (w1.heap.size + 1 + 1) 148 (.map (some (w1.heap.size + 1))) ∧ W.ownsMap Try.prog 9 (plainElem (H := Unit) Try.prog 3) (w1.heap.size + 1) pre.length (seenD (refsL (pre.map Nd.kt)))) ∧ Below w.heap.size w W)
      (fun _ _ _ => False)
      (OwnFrom.and (OwnFrom.and (Own.from (holdsRow_own w.heap.size w1.heap.size 132 9 1 (fun pre : List Nd => (refsL (pre.map Nd.kt)).length) (fun pre => (refsL (pre.map Nd.kt)).map Value.string) (fun _ _ => True)) _)
        (OwnFrom.and (Own.from (boxed_own _ _ (fun _ => .map (some (w1.heap.size + 1)))) _) (fun s X Y row hs hg hr => hs.kept hg (fun e => by have := (hr _ e.symm).1; simp at this; omega)))) (ownFrom_below (Nat.le_refl _) (by simp; omega)))
      (fun _ _ _ _ _ hs _ _ => hs)
      ⟨⟨⟨_, bO, World.ownsRow_nil _ _ _ _, trivial⟩, bM, hm0⟩, hB0⟩
      (fun x a' W => ∃ Bx, w1.heap.size + 1 + 1 < Bx ∧ Blk W Bx 27 #[.int .i64 x.k, .int .u64 x.a, .int .u64 x.b, .int .u64 x.c, .int .u64 x.d, .string x.t, .slice x.A x.n x.cp] ∧
        a' = { tmps := #[.agg #[.int .i64 k, .int .u64 a, .int .u64 b, .int .u64 c, .int .u64 d, .string t, .slice A ks.length cp], .pointer (some ⟨w.heap.size, 0, none⟩), .slice none 0 0, .int .i64 0, .int .i64 0, .pointer (some ⟨w1.heap.size, 0, none⟩), .pointer (some ⟨w1.heap.size + 1 + 1, 0, none⟩), .pointer (some ⟨Bx, 0, none⟩),
          .agg #[.int .i64 k, .int .u64 a, .int .u64 b, .int .u64 c, .int .u64 d, .string t, .slice A ks.length cp], .int .i64 0, .int .i64 0, .bool false, undef, .map (some (w1.heap.size + 1)), .agg #[.int .i64 k, .int .u64 a, .int .u64 b, .int .u64 c, .int .u64 d, .string t, .slice A ks.length cp], .func (.func 90) #[] #[.pointer (some ⟨w1.heap.size + 1 + 1 + 1, 0, none⟩)], x.val,
          undef, undef, undef, undef, undef, undef, undef, undef, undef, undef, undef, undef, undef, undef, undef, undef, undef, undef, undef], defers := [] })
      (fun x a' _ X Y row hs hg hr => by
        obtain ⟨Bx, h1, h2, h3⟩ := hs
        refine ⟨Bx, h1, h2.grown hg (fun e => ?_), h3⟩
        obtain ⟨_, o, ho, hc⟩ := hr Bx e.symm
        rw [show X.heap[Bx]? = _ from h2] at ho
        cases ho
        cases hc)
      ?assign ?body ?done ?stop
    case assign =>
      rintro l pre x W K ⟨⟨⟨v, hv, hrow, -⟩, hbM, hown⟩, hB⟩ hK
      have hvl := hbM.lt
      dsimp only [Nd.val]
      gi_wp2
      exact hK _ _ ((KeepsOthers.alloc _ _).from _) ((KeepE.refl _ _).alloc hB.size _) ⟨⟨⟨v, hv.alloc _, hrow.alloc _, trivial⟩, hbM.alloc _, hown.alloc _⟩, hB.alloc hB.size _⟩ ⟨W.heap.size, hvl, blk_at rfl, rfl⟩
    case body =>
      rintro l pre x a' W hl ⟨r, hr⟩ ⟨⟨⟨v, hv, hrow, -⟩, hbM, hown⟩, hB⟩ ⟨Bx, hBx, bX, rfl⟩ hlt
      have hcv := hv.cell
      have hcm := hbM.cell
      have c0 : W.cell? ⟨Bx, 0, none⟩ = some (.int .i64 x.k) := bX.cell 0
      have c5 : W.cell? ⟨Bx, 5, none⟩ = some (.string x.t) := bX.cell 5
      have hkey := Go.WideMaps.keyOf_string_mk Try.underlying9 x.ht
      have hlen := refs_len (pre.map Nd.kt)
      have hmk : (pre ++ [x]).map Nd.kt = pre.map Nd.kt ++ [(x.k, x.t)] := by simp [Nd.kt]
      have hpl : pre.length < 60 := by rw [preE_len] at hlt; omega
      rw [List.length_map] at hlen
      have HMK := Lib.hid hmk
      clear hmk hlt
      by_cases hk4 : x.k = 4
      · by_cases hin : x.t ∈ refsL (pre.map Nd.kt)
        · obtain ⟨c, hrun, hat, _⟩ := hown.lookup_int (Maps.string_keyed Try.underlying9) Try.underlying148 Try.underlying3 (zero_int _) hkey
          rw [seenD_at, if_pos hin] at hat
          obtain rfl : c = 1 := by injection hat with hat; injection hat with _ hat; exact hat.symm
          have HR : Hid (refsL ((pre ++ [x]).map Nd.kt) = refsL (pre.map Nd.kt)) := by
            show _ = _
            rw [HMK.out, refsL_snoc, refStep, if_neg (by simp [hin])]
          have HIN := Lib.hid hin
          have hk4' : (x.k == 4) = true := by rw [beq_iff_eq]; exact hk4
          clear hat hin hk4
          gi_wp2
          exact ⟨KeepsFrom.refl _ _, KeepE.refl _ _, ⟨⟨v, hv, by rw [HR.out]; exact hrow, trivial⟩, hbM, by rw [HR.out, List.length_append]; exact hown.mono (by simp)⟩, hB⟩
        · obtain ⟨c, hrun, hat, _⟩ := hown.lookup_int (Maps.string_keyed Try.underlying9) Try.underlying148 Try.underlying3 (zero_int _) hkey
          rw [seenD_at, if_neg hin] at hat
          obtain rfl : c = 0 := by injection hat with hat; injection hat with _ hat; exact hat.symm
          have HR : Hid (refsL ((pre ++ [x]).map Nd.kt) = refsL (pre.map Nd.kt) ++ [x.t]) := by
            show _ = _
            rw [HMK.out, refsL_snoc, refStep, if_pos ⟨hk4, hin⟩]
          have hk4' : (x.k == 4) = true := by rw [beq_iff_eq]; exact hk4
          clear hat hin hk4
          have hmh : ∃ o : Obj, W.heap[w1.heap.size + 1]? = some o ∧ o.isCells = false := by
            obtain ⟨es, ck, hh, _⟩ := hown
            exact ⟨_, hh, rfl⟩
          have HMH := Lib.hid hmh
          clear hmh
          have hnr : ∀ r, some (w1.heap.size + 1) = some r → ∃ o : Obj, W.heap[r]? = some o ∧ o.isCells = false := fun r e => by cases e; exact HMH.out
          have HNR := Lib.hid hnr
          clear hnr
          have hrk := fun (W' : World) (hg : W.grownBy W' (some (w1.heap.size + 1))) => (holdsRow_own w.heap.size w1.heap.size 132 9 1 (fun _ : Unit => (refsL (pre.map Nd.kt)).length) (fun _ => (refsL (pre.map Nd.kt)).map Value.string) (fun _ u => u = v)) () W W' _ ⟨v, hv, hrow, rfl⟩ hg HNR.out
          have HRK := Lib.hid hrk
          clear hrk
          gi_wp2_with (first
            | (gi_at_mapUpdate; refine wpListIn_mapUpdate_own _ rfl _ _ _ 148 rfl 9 3 (Maps.string_keyed Try.underlying9) Try.underlying148 _ (w1.heap.size + 1) pre.length _ rfl hown (by unfold maxLen; omega) _ _ _ rfl rfl hkey _ [] (plainElem_int Try.underlying3 (by decide)) ?_; intro w2 hown2 hg2; obtain ⟨v2, hv2, hrow2, hvv⟩ := HRK.out w2 hg2; subst hvv; have hcv2 := hv2.cell; have c52 : w2.cell? ⟨Bx, 5, none⟩ = some (.string x.t) := (bX.grown hg2 (by simp; omega)).cell 5; have hz2' := hg2.size)
            | (gi_at_builtin; refine wpListIn_append_own _ rfl _ _ 132 rfl w.heap.size 9 i0 (.string ByteArray.empty) 1 16 Try.underlying132 hi hz0 hz1 hz2 rfl (by decide) _ _ _ rfl (hrow2.alloc _) ⟨w2.heap.size, 0, none⟩ 1 1 [.string x.t] rfl rfl (cell_one_new _ _ _) (by simp [Value.oneCell']) (by unfold maxLen; omega) (by omega) (by have := hB.size; simp; omega) ?_; intro v' w3 hown' hgrow _; obtain ⟨g', cap', rfl⟩ := ownsRow_succ hown'; obtain ⟨hv3, hv4, hr4, hk4, hb4⟩ := hv2.appended (by decide) hrow2 (Nat.le_trans hB.size hz2') (by omega) hown' hgrow; have hc3 := hv3.cell; have hf3 := hv3.frozen))
          have hbb : Below w.heap.size W w2 := (Below.refl _ W).grown hg2 hB.size (fun k e => by cases e; omega)
          have hbM3 : Boxed w3 (w1.heap.size + 1 + 1) 148 (.map (some (w1.heap.size + 1))) := (((hbM.kept hg2 (by simp)).alloc _).kept hgrow (((hbM.kept hg2 (by simp)).not_row (by decide) hrow2)))
          have hke : KeepE w.heap.size w2 (w3.setCell ⟨w1.heap.size, 0, none⟩ (.slice (some ⟨g', 0, none⟩) ((refsL (pre.map Nd.kt)).length + 1) cap')) := ⟨hb4, fun k' cs hk' => by
            have h3 : Blk w3 k' 27 cs := (hk'.alloc _).grown hgrow (own_not_blk hrow2 hk' (by decide))
            refine h3.far (fun e => ?_) _
            rw [show k' = w1.heap.size from e] at h3
            have h5 := hv3
            unfold Boxed at h5
            rw [show w3.heap[w1.heap.size]? = _ from h3] at h5
            simp at h5⟩
          refine ⟨(KeepsFrom.of_grownBy hg2 (fun j e => by cases e; simp)).trans (hk4.from _), (KeepE.grown hbb hg2 (fun r cs e hb => ?_)).trans hke, ⟨⟨_, And.intro hv4 ?_⟩, hbM3.other (by omega) _, ?_⟩, hB.trans (hbb.trans hb4)⟩
          · obtain ⟨o, ho, hc⟩ := HNR.out r e
            rw [show W.heap[r]? = _ from hb] at ho
            cases ho
            cases hc
          · rw [HR.out, List.length_append, List.map_append]
            exact hr4
          · obtain ⟨es, ck, hh, rest⟩ := hown2
            refine ⟨es, ck, hk4.same _ _ hh rfl, ?_⟩
            rw [HR.out, seenD_snoc, List.length_append]
            exact rest
      · have hk4' : (x.k == 4) = false := by rw [beq_eq_false_iff_ne]; exact hk4
        have HR : Hid (refsL ((pre ++ [x]).map Nd.kt) = refsL (pre.map Nd.kt)) := by
          show _ = _
          rw [HMK.out, refsL_snoc, refStep, if_neg (by simp [hk4])]
        clear hk4
        gi_wp2
        exact ⟨KeepsFrom.refl _ _, KeepE.refl _ _, ⟨⟨v, hv, by rw [HR.out]; exact hrow, trivial⟩, hbM, by rw [HR.out, List.length_append]; exact hown.mono (by simp)⟩, hB⟩
    case done =>
      rintro D ys W hD hys ⟨⟨⟨v, hv, hrow, -⟩, hbM, hown⟩, hB⟩ hK
      have hcv := hv.cell
      have HY := Lib.hid hys
      clear hys
      gi_wp2
      refine ⟨by simp, .inl ⟨_, _, rfl, run_takeDeferred hK, ?_⟩⟩
      obtain ⟨V, cq, rfl⟩ := own_form hrow
      have hrow2 := ownsRow_putObj hrow (.deferred none) hK rfl
      have hB2 : Below w.heap.size w (W.putObj D (.deferred none)) := hB.trans (belowK_b (w := w1) (by omega) W D _ _ (by simp at hD; omega) hK rfl rfl)
      have HR2 : Hid (Reads (W.putObj D (.deferred none)) (W.putObj D (.deferred none)).heap.size 1 V (refsL (ys.map Nd.kt)).length ((refsE (.mk k a b c d t ks)).map Value.string)) := by
        show Reads _ _ _ _ _ _
        rw [refsE, ← HY.out]
        exact Reads.of_own hrow2
      refine ⟨_, results_tmp2 rfl _ _ _, ?_⟩
      refine Exists.intro V (Exists.intro (refsL (ys.map Nd.kt)).length (Exists.intro cq (Exists.intro (refsE (.mk k a b c d t ks)) ⟨?_, HQ.out.symm, HR2.out, hB2⟩)))
      rw [H0.out]; rfl
    case stop =>
      rintro D c pre W _ _ h _
      exact h.elim
  · have HQ : Hid ((if checkE (.mk k a b c d t ks) = 0 then refsE (.mk k a b c d t ks) else []) = []) := if_neg h0
    have hxb : (checkE (.mk k a b c d t ks) != 0) = true := by rw [bne_iff_ne]; exact h0
    generalize hx : checkE (.mk k a b c d t ks) = x at hxb HCK
    have HX := Lib.hid hx
    clear hx h0
    refine callsIn_of_wp Try.func66 rfl trivial ?_ hro
    simp only [Try.ntmps66, List.size_toArray, List.length_cons, List.length_nil, Nat.reduceAdd, Nat.reduceSub, Array.replicate_succ, Array.replicate_zero, List.push_toArray, List.append_toArray, List.nil_append, List.cons_append]
    gi_wp2_with (refine ⟨trivial, ?_⟩; gi_at_call 17; refine (callsIn_wide.2 (HCK.out _ (by repeat (first | exact Below.refl _ _ | assumption | refine Below.drew ?_ | refine below_drewN ?_ _ | refine Below.alloc ?_ (by first | omega | (simp; omega) | simp) _ | refine Below.setCell ?_ (by first | omega | (simp; omega) | simp) _)))).mono ?_; rintro e w1 ⟨rfl, hb1⟩)
    have hw1 : Below w.heap.size w w1 := ((Below.refl _ w).alloc (Nat.le_refl _) _).trans (hb1.mono (by simp))
    go_ret2
    exact ⟨none, 0, 0, [], by rw [HX.out]; rfl, HQ.out.symm, Reads.none_, hw1⟩
end Go.Proofs.Ytndhbdbfjkmloaa
namespace Go.Proofs.Ytndhbdbfjkmloaa
open Go.RowKit

/-- the rules one by one: what went wrong first, and how many nodes there are till there -/
def chk1 (g : List Rl) : List Rl → Nat → Nat → Int × Nat
  | [], _, all => (0, all)
  | r :: rs, i, all => if nameB r.1.data.toList = false then (6, all) else if fnd g r.1.data.toList ≠ i then (7, all) else if checkE r.2 ≠ 0 then (checkE r.2, all) else chk1 g rs (i + 1) (all + nodes r.2)
/-- is each name known? -/
def known1 (g : List Rl) : List ByteArray → Bool
  | [] => true
  | s :: ss => if fnd g s.data.toList < 0 then false else known1 g ss
/-- what expr.Refs tells -/
def refsC (e : Ex) : List ByteArray := if checkE e = 0 then refsE e else []
theorem refsC_len (e : Ex) : (refsC e).length ≤ 60 := by
  unfold refsC
  split
  · rename_i h
    have h1 := refs_len (preE e)
    have h2 := nodes_le h
    rw [preE_len] at h1
    exact Nat.le_trans h1 h2
  · simp
def chk2 (g : List Rl) : List Rl → Int
  | [] => 0
  | r :: rs => if known1 g (refsC r.2) = false then 6 else chk2 g rs
def checkG (g : List Rl) : Int :=
  if g.length = 0 then 1 else if 10 < g.length then 2 else if (chk1 g g 0 0).1 ≠ 0 then (chk1 g g 0 0).1 else if 120 < (chk1 g g 0 0).2 then 2 else chk2 g g

theorem sizeE_of (e : Ex) : sizeE e = if checkE e = 0 then (nodes e, 0) else (0, checkE e) := by
  by_cases h : checkE e = 0
  · have h1 := look_ok _ 0 1 h 0 1 (Nat.le_refl _) (Nat.le_refl _)
    unfold sizeE
    rw [if_pos h, h1, if_pos rfl, Nat.zero_add]
  · rw [if_neg h]; exact size_bad h

/-- strings that can be read -/
theorem reads_str {w : World} {B n j : Nat} {A : Option Addr} {ls : List ByteArray} (h : Reads w B 1 A n (ls.map Value.string)) (hj : j < n) :
    ∃ ad s, A = some ad ∧ ad.block < B ∧ ls[j]? = some s ∧ w.cell? (ad.add j) = some (.string s) := by
  obtain ⟨ad, u, e, hb, hx, hc⟩ := h.at_ hj
  simp only [List.getElem?_map, Option.map_eq_some_iff] at hx
  obtain ⟨s, hs, rfl⟩ := hx
  exact ⟨ad, s, e, hb, hs, hc⟩

set_option maxRecDepth 100000 in
set_option maxHeartbeats 4000000 in
theorem gcheck_any {g : List Rl} {A : Option Addr} {cp : Nat} {row : Nat → List Value} {w : World} (h : GrIs w w.heap.size g A cp row) :
    Calls Try.prog 44 #[.agg #[.slice A g.length cp]] w fun e w' => e = .returned (.int .i64 (checkG g)) ∧ Below w.heap.size w w' := by
  have HG := Lib.hid h
  clear h
  by_cases h0 : g.length = 0
  · have HF : Hid (checkG g = 1) := if_pos h0
    have hb : ((g.length : Int) == 0) = true := by rw [beq_iff_eq]; omega
    go_enter Try.func44, Try.ntmps44
    go_wp2
    go_ret
    exact ⟨ret_int HF.out.symm, (by repeat (first | exact Below.refl _ _ | assumption | refine Below.drew ?_ | refine below_drewN ?_ _ | refine Below.alloc ?_ (by first | omega | (simp; omega) | simp) _ | refine Below.setCell ?_ (by first | omega | (simp; omega) | simp) _))⟩
  have hb0 : ((g.length : Int) == 0) = false := by rw [beq_eq_false_iff_ne]; omega
  by_cases h10 : 10 < g.length
  · have HF : Hid (checkG g = 2) := (if_neg h0).trans (if_pos h10)
    go_enter Try.func44, Try.ntmps44
    go_wp2
    go_ret
    exact ⟨ret_int HF.out.symm, (by repeat (first | exact Below.refl _ _ | assumption | refine Below.drew ?_ | refine below_drewN ?_ _ | refine Below.alloc ?_ (by first | omega | (simp; omega) | simp) _ | refine Below.setCell ?_ (by first | omega | (simp; omega) | simp) _))⟩
  have HF : Hid (checkG g = if (chk1 g g 0 0).1 ≠ 0 then (chk1 g g 0 0).1 else if 120 < (chk1 g g 0 0).2 then 2 else chk2 g g) := (if_neg h0).trans (if_neg h10)
  have HC0 : Hid (chk1 g (g.drop 0) 0 0 = chk1 g g 0 0) := rfl
  generalize chk1 g g 0 0 = c1 at HF HC0
  go_enter Try.func44, Try.ntmps44
  go_wp2
  go_loopw [3, 4, 5, 6, 7, 25] (fun s3 _ _ _ _ i wr => ∃ j all : Nat, j ≤ g.length ∧ i = .int .i64 j ∧ s3 = .int .i64 all ∧ all ≤ j * 60 ∧ Hid (chk1 g (g.drop j) j all = c1) ∧ Blk wr w.heap.size 35 #[.slice A g.length cp] ∧ Below w.heap.size w wr) (fun _ _ _ _ _ i _ => g.length - (intOf i).toNat)
  case atStart => exact ⟨0, 0, by omega, rfl, rfl, by omega, HC0, blk_at rfl, (by repeat (first | exact Below.refl _ _ | assumption | refine Below.drew ?_ | refine below_drewN ?_ _ | refine Below.alloc ?_ (by first | omega | (simp; omega) | simp) _ | refine Below.setCell ?_ (by first | omega | (simp; omega) | simp) _))⟩
  case round =>
    obtain ⟨j, all, hj, rfl, rfl, hall, HR, hbg, hwr⟩ := hrel
    have g0 : wr.cell? ⟨w.heap.size, 0, none⟩ = some (.slice A g.length cp) := hbg.cell 0
    have hgl := hbg.lt
    by_cases hjk : j < g.length
    · obtain ⟨ad, nm, k', a', b', c', d', t', ks', A', cp', rfl, hab, hej, hnm, hE, ⟨e0, e1, e2, e3, e4, e5, e6, e7⟩⟩ := (HG.out.on hwr).rule hjk
      have hwz := hwr.size
      have HD := Lib.hid (drop_of hej)
      have hfd := fun W (hW : Below w.heap.size w W) => find_any ((HG.out.on hW).more hW.size) nm
      have hsz := fun W (hW : Below w.heap.size wr W) => size_expr _ _ W ((hE.on hW).keep (Nat.le_trans hwz hW.size) fun _ _ => rfl)
      have hse := sizeE_of (.mk k' a' b' c' d' t' ks')
      unfold exCells at hsz
      have hnl : checkE (.mk k' a' b' c' d' t' ks') = 0 → nodes (.mk k' a' b' c' d' t' ks') ≤ 60 := nodes_le
      generalize sizeE (.mk k' a' b' c' d' t' ks') = sz at hsz hse
      have HFD := Lib.hid hfd
      have HSZ := Lib.hid hsz
      have HSE := Lib.hid hse
      have HNL := Lib.hid hnl
      clear hE hej hfd hsz hse hnl
      have HCS : Hid (chk1 g (g.drop j) j all = if nameB nm.data.toList = false then (6, all) else if fnd g nm.data.toList ≠ j then (7, all) else if checkE (.mk k' a' b' c' d' t' ks') ≠ 0 then (checkE (.mk k' a' b' c' d' t' ks'), all) else chk1 g (g.drop (j + 1)) (j + 1) (all + nodes (.mk k' a' b' c' d' t' ks'))) := by
        show _ = _
        rw [HD.out, chk1]
      cases hnb : nameB nm.data.toList
      · have HFF : Hid (checkG g = 6) := by
          show _ = _
          rw [HF.out, ← HR.out, HCS.out, if_pos hnb]; simp
        have HN := Lib.hid hnb
        clear hnb
        go_wp2_with (go_at_call 64; refine (name_any nm _).mono ?_; rw [HN.out]; rintro e w1 ⟨rfl, rfl⟩)
        go_ret
        exact ⟨ret_int HFF.out.symm, (by repeat (first | exact Below.refl _ _ | assumption | refine Below.drew ?_ | refine below_drewN ?_ _ | refine Below.alloc ?_ (by first | omega | (simp; omega) | simp) _ | refine Below.setCell ?_ (by first | omega | (simp; omega) | simp) _))⟩
      have HN := Lib.hid hnb
      clear hnb
      by_cases hf : fnd g nm.data.toList = j
      · rw [hf] at HFD
        have hjj : (((j : Nat) : Int) != (j : Int)) = false := by rw [bne_eq_false_iff_eq]
        have HCS2 : Hid (chk1 g (g.drop j) j all = if checkE (.mk k' a' b' c' d' t' ks') ≠ 0 then (checkE (.mk k' a' b' c' d' t' ks'), all) else chk1 g (g.drop (j + 1)) (j + 1) (all + nodes (.mk k' a' b' c' d' t' ks'))) := HCS.out.trans ((if_neg (by rw [HN.out]; decide)).trans (if_neg (by simp [hf])))
        clear HCS hf
        go_wp2_with (go_at_call 64; refine (name_any nm _).mono ?_; rw [HN.out]; rintro e w1 ⟨rfl, rfl⟩)
        refine (HFD.out _ (by repeat (first | exact Below.refl _ _ | assumption | refine Below.drew ?_ | refine below_drewN ?_ _ | refine Below.alloc ?_ (by first | omega | (simp; omega) | simp) _ | refine Below.setCell ?_ (by first | omega | (simp; omega) | simp) _))).mono ?_
        rintro e w1 ⟨rfl, hb1⟩
        have hbg1 : Blk w1 w.heap.size 35 #[.slice (some ad) g.length cp] := (hbg.alloc _).below hb1 (by simp; omega)
        have hbx : Blk w1 wr.heap.size 87 #[.string nm, .int .i64 k', .int .u64 a', .int .u64 b', .int .u64 c', .int .u64 d', .string t', .slice A' ks'.length cp'] := (blk_at rfl).below hb1 (by simp)
        have hw1 : Below w.heap.size wr w1 := Below.trans (by repeat (first | exact Below.refl _ _ | assumption | refine Below.drew ?_ | refine below_drewN ?_ _ | refine Below.alloc ?_ (by first | omega | (simp; omega) | simp) _ | refine Below.setCell ?_ (by first | omega | (simp; omega) | simp) _)) (hb1.mono (by first | omega | (simp; omega) | simp)); have hzw1 := hw1.size
        clear hb1
        have x0 : w1.cell? ⟨wr.heap.size, 0, none⟩ = some (.string nm) := hbx.cell 0; have x1 : w1.cell? ⟨wr.heap.size, 1, none⟩ = some (.int .i64 k') := hbx.cell 1; have x2 : w1.cell? ⟨wr.heap.size, 2, none⟩ = some (.int .u64 a') := hbx.cell 2; have x3 : w1.cell? ⟨wr.heap.size, 3, none⟩ = some (.int .u64 b') := hbx.cell 3; have x4 : w1.cell? ⟨wr.heap.size, 4, none⟩ = some (.int .u64 c') := hbx.cell 4; have x5 : w1.cell? ⟨wr.heap.size, 5, none⟩ = some (.int .u64 d') := hbx.cell 5; have x6 : w1.cell? ⟨wr.heap.size, 6, none⟩ = some (.string t') := hbx.cell 6; have x7 : w1.cell? ⟨wr.heap.size, 7, none⟩ = some (.slice A' ks'.length cp') := hbx.cell 7
        go_wp2_with fail
        refine (HSZ.out _ hw1).mono ?_
        rintro e w2 ⟨rfl, hb2⟩
        have hw2 : Below w.heap.size w w2 := (hwr.trans hw1).trans (hb2.mono (by first | omega | (simp; omega) | simp))
        have hbg2 : Blk w2 w.heap.size 35 #[.slice (some ad) g.length cp] := hbg1.below hb2 hbg1.lt
        clear hb2 x0 x1 x2 x3 x4 x5 x6 x7 hbx
        by_cases hc : checkE (.mk k' a' b' c' d' t' ks') = 0
        · have HC3 : Hid (chk1 g (g.drop j) j all = chk1 g (g.drop (j + 1)) (j + 1) (all + nodes (.mk k' a' b' c' d' t' ks'))) := HCS2.out.trans (if_neg (by simp [hc]))
          have hnn := HNL.out hc
          obtain rfl : sz = (nodes (.mk k' a' b' c' d' t' ks'), 0) := HSE.out.trans (if_pos hc)
          generalize nodes (.mk k' a' b' c' d' t' ks') = m at HC3 hnn
          clear hc HCS2 HNL HSE
          have h600 : j * 60 ≤ 600 := by omega
          go_wp2
          go_roundw
          case rel => exact ⟨j + 1, all + m, by omega, by go_num, by go_num, by omega, by show _ = _; rw [← HC3.out]; exact HR.out, hbg2, hw2⟩
          case measure => simp [intOf]; omega
        · have HC3 : Hid (checkG g = checkE (.mk k' a' b' c' d' t' ks')) := by
            show _ = _
            rw [HF.out, ← HR.out, HCS2.out, if_pos hc]; simp [hc]
          obtain rfl : sz = (0, checkE (.mk k' a' b' c' d' t' ks')) := HSE.out.trans (if_neg hc)
          have hcb : (checkE (.mk k' a' b' c' d' t' ks') != 0) = true := by rw [bne_iff_ne]; exact hc
          clear hc HCS2 HNL HSE
          generalize checkE (.mk k' a' b' c' d' t' ks') = m at HC3 hcb
          go_wp2
          go_ret
          exact ⟨ret_int HC3.out.symm, hw2⟩
      · have HFF : Hid (checkG g = 7) := by
          show _ = _
          rw [HF.out, ← HR.out, HCS.out.trans ((if_neg (by rw [HN.out]; decide)).trans (if_pos hf))]; simp
        have hjj : (fnd g nm.data.toList != (j : Int)) = true := by rw [bne_iff_ne]; exact hf
        generalize fnd g nm.data.toList = fn at hjj HFD
        clear hf HCS
        go_wp2_with (go_at_call 64; refine (name_any nm _).mono ?_; rw [HN.out]; rintro e w1 ⟨rfl, rfl⟩)
        refine (HFD.out _ (by repeat (first | exact Below.refl _ _ | assumption | refine Below.drew ?_ | refine below_drewN ?_ _ | refine Below.alloc ?_ (by first | omega | (simp; omega) | simp) _ | refine Below.setCell ?_ (by first | omega | (simp; omega) | simp) _))).mono ?_
        rintro e w1 ⟨rfl, hb1⟩
        have hw1 : Below w.heap.size wr w1 := Below.trans (by repeat (first | exact Below.refl _ _ | assumption | refine Below.drew ?_ | refine below_drewN ?_ _ | refine Below.alloc ?_ (by first | omega | (simp; omega) | simp) _ | refine Below.setCell ?_ (by first | omega | (simp; omega) | simp) _)) (hb1.mono (by first | omega | (simp; omega) | simp)); have hzw1 := hw1.size
        clear hb1
        go_wp2
        go_ret
        exact ⟨ret_int HFF.out.symm, hwr.trans hw1⟩
    · obtain rfl : j = g.length := by omega
      have hc1 : c1 = (0, all) := by rw [← HR.out, List.drop_length, chk1]
      subst hc1
      have HF2 : Hid (checkG g = if 120 < all then 2 else chk2 g g) := HF.out.trans (if_neg (by simp))
      clear HF HR
      have h600 : g.length * 60 ≤ 600 := by omega
      by_cases h120 : 120 < all
      · have HFF : Hid (checkG g = 2) := HF2.out.trans (if_pos h120)
        go_wp2
        go_ret
        exact ⟨ret_int HFF.out.symm, hwr⟩
      have HFF : Hid (chk2 g (g.drop 0) = checkG g) := (HF2.out.trans (if_neg h120)).symm
      clear HF2
      go_wp2
      go_loopw [9, 10, 11, 13, 58] (fun _ _ _ _ i wr => ∃ j : Nat, j ≤ g.length ∧ i = .int .i64 j ∧ Hid (chk2 g (g.drop j) = checkG g) ∧ Blk wr w.heap.size 35 #[.slice A g.length cp] ∧ Below w.heap.size w wr) (fun _ _ _ _ i _ => g.length - (intOf i).toNat)
      case atStart => exact ⟨0, by omega, rfl, HFF, hbg, hwr⟩
      case round =>
        clear hbg hwr g0 hgl HFF
        obtain ⟨j, hj, rfl, HR, hbg, hwr⟩ := hrel
        have g0 : wr.cell? ⟨w.heap.size, 0, none⟩ = some (.slice A g.length cp) := hbg.cell 0
        have hgl := hbg.lt
        by_cases hjk : j < g.length
        · obtain ⟨ad, nm, k', a', b', c', d', t', ks', A', cp', rfl, hab, hej, hnm, hE, ⟨e0, e1, e2, e3, e4, e5, e6, e7⟩⟩ := (HG.out.on hwr).rule hjk
          have hwz := hwr.size
          have HD := Lib.hid (drop_of hej)
          have hrf := fun W (hW : Below w.heap.size wr W) => refs_any _ _ W ((hE.on hW).keep (Nat.le_trans hwz hW.size) fun _ _ => rfl)
          unfold exCells at hrf
          have HRF := Lib.hid hrf
          have HCS : Hid (chk2 g (g.drop j) = if known1 g (refsC (.mk k' a' b' c' d' t' ks')) = false then 6 else chk2 g (g.drop (j + 1))) := by
            show _ = _
            rw [HD.out, chk2]
          have hrl := refsC_len (.mk k' a' b' c' d' t' ks')
          clear hE hej hrf
          go_wp2_with fail
          refine (HRF.out _ (by repeat (first | exact Below.refl _ _ | assumption | refine Below.drew ?_ | refine below_drewN ?_ _ | refine Below.alloc ?_ (by first | omega | (simp; omega) | simp) _ | refine Below.setCell ?_ (by first | omega | (simp; omega) | simp) _))).mono ?_
          rintro e w1 ⟨A2, n2, cp2, ls, rfl, hls, hrd, hb1⟩
          have hn2 : ls.length = n2 := by have := hrd.len; simpa using this
          rw [← show ls = refsC (.mk k' a' b' c' d' t' ks') from hls] at hrl HCS
          have HK0 : Hid (known1 g (ls.drop 0) = known1 g ls) := rfl
          generalize known1 g ls = kb at HK0 HCS
          have hbg1 : Blk w1 w.heap.size 35 #[.slice (some ad) g.length cp] := (hbg.alloc _).below hb1 (by simp; omega)
          have hw1 : Below w.heap.size wr w1 := Below.trans (by repeat (first | exact Below.refl _ _ | assumption | refine Below.drew ?_ | refine below_drewN ?_ _ | refine Below.alloc ?_ (by first | omega | (simp; omega) | simp) _ | refine Below.setCell ?_ (by first | omega | (simp; omega) | simp) _)) (hb1.mono (by first | omega | (simp; omega) | simp)); have hzw1 := hw1.size
          have hww1 : Below w.heap.size w w1 := hwr.trans hw1
          have HRD := Lib.hid hrd
          clear hb1 hls HRF
          generalize checkE (.mk k' a' b' c' d' t' ks') = ce
          have hm2 : n2 ≤ 9223372036854775807 := by omega
          go_wp2
          go_loopw [13, 70] (fun _ i wi => ∃ q : Nat, q ≤ n2 ∧ i = .int .i64 q ∧ Hid (known1 g (ls.drop q) = kb) ∧ Below w1.heap.size w1 wi) (fun _ i _ => n2 - (intOf i).toNat)
          case atStart => exact ⟨0, by omega, rfl, HK0, Below.refl _ _⟩
          case round =>
            obtain ⟨q, hq, rfl, HK, hwi⟩ := hrel
            have g1 : wr.cell? ⟨w.heap.size, 0, none⟩ = some (.slice (some ad) g.length cp) := (hbg1.below hwi hbg1.lt).cell 0
            by_cases hqn : q < n2
            · obtain ⟨ad2, s, rfl, hab2, hsj, hcs⟩ := reads_str (HRD.out.on hwi (Nat.le_refl _)) hqn
              have hfd := fun W (hW : Below w.heap.size w W) => find_any ((HG.out.on hW).more hW.size) s
              have HD2 := Lib.hid (drop_of hsj)
              have HK2 : Hid (known1 g (ls.drop q) = if fnd g s.data.toList < 0 then false else known1 g (ls.drop (q + 1))) := by
                show _ = _
                rw [HD2.out, known1]
              generalize fnd g s.data.toList = f at hfd HK2
              have HFD := Lib.hid hfd
              have hwwi : Below w.heap.size w wr := hww1.trans (hwi.mono hww1.size)
              clear hfd hsj
              go_wp2_with fail
              refine (HFD.out _ hwwi).mono ?_
              rintro e w3 ⟨rfl, hb3⟩
              have hw3 : Below w1.heap.size w1 w3 := hwi.trans (hb3.mono hwi.size)
              have hww3 : Below w.heap.size w w3 := hwwi.trans (hb3.mono hwwi.size)
              clear hb3
              by_cases hf : f < 0
              · have HFF : Hid (checkG g = 6) := by
                  show _ = _
                  rw [← HR.out, HCS.out, ← HK.out, HK2.out, if_pos hf, if_pos rfl]
                clear HCS
                go_wp2
                go_ret
                exact ⟨ret_int HFF.out.symm, hww3⟩
              · have hf' : (f < 0) = False := by simp; omega
                have HK3 : Hid (known1 g (ls.drop (q + 1)) = kb) := by
                  show _ = _
                  rw [← HK.out, HK2.out, if_neg hf]
                clear HCS hf
                go_wp2
                go_roundw
                case rel => exact ⟨q + 1, by omega, by go_num, HK3, hw3⟩
                case measure => simp [intOf]; omega
            · obtain rfl : q = n2 := by omega
              have hkb : kb = true := by rw [← HK.out, ← hn2, List.drop_length, known1]
              subst hkb
              have HR2 : Hid (chk2 g (g.drop (j + 1)) = checkG g) := by
                show _ = _
                rw [← HR.out, HCS.out, if_neg (by simp)]
              have hwwi : Below w.heap.size w wr := hww1.trans (hwi.mono hww1.size)
              have hbgi := hbg1.below hwi hbg1.lt
              clear HCS HK HK0
              go_wp2
              go_roundw
              case rel => exact ⟨j + 1, by omega, by go_num, HR2, hbgi, hwwi⟩
              case measure => simp [intOf]; omega
        · obtain rfl : j = g.length := by omega
          have HFF : Hid (checkG g = 0) := by
            show _ = _
            rw [← HR.out, List.drop_length, chk2]
          go_wp2
          go_ret
          exact ⟨ret_int HFF.out.symm, hwr⟩
end Go.Proofs.Ytndhbdbfjkmloaa
namespace Go.Proofs.Ytndhbdbfjkmloaa

section
variable {P : Program} {ops : Array Oper} {C : World → Prop} {Q : Act → Prop}
theorem wpQuiet_yes {o : Oper} {rest : List Oper} {a : Act} (hw : Region.wanted o (yielded ops a.tmps) = true) (v : Value) (h1 : ∀ w, C w → o.quietAt P a C w v) (h2 : wpQuiet P ops C Q rest (a.put o.dst v)) : wpQuiet P ops C Q (o :: rest) a := by
  show if Region.wanted o (yielded ops a.tmps) = true then _ else _
  rw [if_pos hw]
  exact ⟨v, h1, h2⟩
theorem wpQuiet_no {o : Oper} {rest : List Oper} {a : Act} (hw : Region.wanted o (yielded ops a.tmps) = false) (h2 : wpQuiet P ops C Q rest (a.put o.dst undef)) : wpQuiet P ops C Q (o :: rest) a := by
  show if Region.wanted o (yielded ops a.tmps) = true then _ else _
  rw [if_neg (by rw [hw]; decide)]
  exact h2
end
end Go.Proofs.Ytndhbdbfjkmloaa
namespace Go.Proofs.Ytndhbdbfjkmloaa

section
variable {P : Program} {ops : Array Oper} {md : Region.Mode} {C : World → Prop}

/-- whatever order of the first n is picked, all quiet in C, it ends in L -/
def headAny (P : Program) (md : Region.Mode) (ops : Array Oper) (C : World → Prop) (n : Nat) (L : Array Bool → Act → Prop) : Nat → Array Bool → Act → Prop
  | 0, listed, a => L listed a
  | f + 1, listed, a => Region.ready md ops listed ≠ [] ∧ ∀ i ∈ Region.ready md ops listed, i < n ∧ qOp P ops C i (headAny P md ops C n L f (listed.setIfInBounds i true)) a

theorem any_of_head {n g : Nat} {L : Array Bool → Act → Prop} {Q' : Exit → Act → World → Prop} (hL : ∀ listed a w, C w → L listed a → wpAny P md ops Q' g listed a w) :
    ∀ (f : Nat) (listed : Array Bool) (a : Act) (w : World), C w → headAny P md ops C n L f listed a → wpAny P md ops Q' (f + g) listed a w := by
  intro f
  induction f with
  | zero => intro listed a w hw h; rw [Nat.zero_add]; exact hL _ _ _ hw h
  | succ f ih =>
    intro listed a w hw h
    rw [show f + 1 + g = (f + g) + 1 by omega]
    exact ⟨fun h0 => absurd h0 h.1, fun i hi => wpOp_of_qOp hw (fun a' w' hw' h' => ih _ a' w' hw' h') (h.2 i hi).2⟩

theorem head_first {n i : Nat} {oi : Oper} {v : Value} {L : Array Bool → Act → Prop} (hi : ops[i]? = some oi) (hsel : ∀ (j : Nat) (o : Oper) cs b, ops[j]? = some o → o.op ≠ .select cs b)
    (hs : Region.sinkB md ops n = true) (hc : Region.chainB md ops n = true) (hn : n < ops.size) (hin : i < n)
    (hdone : ∀ listed a, L listed a → ∀ j ∈ Region.ready md ops listed, n ≤ j) (f : Nat) :
    ∀ (listed : Array Bool) (a : Act), HeadInv md ops n listed →
      (∀ j oj, ops[j]? = some oj → j ≠ i → listed.getD j true = false → (∀ e ∈ oj.after, Region.binds md e = true → e.on ≠ i) → oi.apart ops oj = true) →
      i ∈ Region.ready md ops listed → YieldsIn P ops C oi v a →
      headAny P md ops C n L f (listed.setIfInBounds i true) (a.put oi.dst v) → headAny P md ops C n L (f + 1) listed a := by
  induction f with
  | zero =>
    intro listed a inv _ hr hy H
    have hun := (mem_ready.1 hr).1
    refine ⟨List.ne_nil_of_mem hr, fun j hj => ?_⟩
    have hjn : j < n := Nat.lt_of_not_le fun h => tail_waits hs hc hn inv _ i rfl hin hun j h hj
    refine ⟨hjn, ?_⟩
    by_cases hji : j = i
    · subst hji; exact hy.qOp hi H
    · have h1 := hdone _ _ H j (ready_mono hj hji)
      omega
  | succ f ih =>
    intro listed a inv hfree hr hy H
    have hun := (mem_ready.1 hr).1
    refine ⟨List.ne_nil_of_mem hr, fun j hj => ?_⟩
    have hjn : j < n := Nat.lt_of_not_le fun h => tail_waits hs hc hn inv _ i rfl hin hun j h hj
    refine ⟨hjn, ?_⟩
    by_cases hji : j = i
    · subst hji; exact hy.qOp hi H
    · obtain ⟨hjun, oj, hoj, hall⟩ := mem_ready.1 hj
      have hnot : ∀ e ∈ oj.after, Region.binds md e = true → e.on ≠ i := fun e he hb heq => by
        have h1 := hall e he hb
        rw [heq, getD_both hun] at h1
        cases h1
      have h2 := qOp_put hoj (hfree j oj hoj hji hjun hnot) (fun cs b => hsel i oi cs b hi) (fun cs b => hsel j oj cs b hoj) hy (H.2 j (ready_mono hj hji)).2
      refine qOp_mono (fun a' h3 => ih (listed.setIfInBounds j true) a' (inv.set hj hjn) (fun k ok hk hki hu hno => ?_) (ready_mono hr (Ne.symm hji)) h3.1 ?_) h2
      · refine hfree k ok hk hki ?_ hno
        by_cases hjk : j = k
        · subst hjk; exact hjun
        · rw [getD_set_ne true hjk] at hu; exact hu
      · rw [Array.setIfInBounds_comm _ _ hji]
        exact h3.2

theorem head_lex {n g : Nat} {Lq : Act → Prop} (hsel : Region.noSelect ops = true) (hs : Region.sinkB md ops n = true) (hc : Region.chainB md ops n = true) (hn : n < ops.size) :
    ∀ (l : List Oper) (k : Nat) (listed : Array Bool) (a : Act), (∀ j, j < l.length → l[j]? = ops[k + j]?) → k + l.length = n → HeadInv md ops n listed →
    Region.lexHead md ops g l.length k listed = true → wpQuiet P ops C Lq l a →
    headAny P md ops C n (fun listed' a' => Region.seqB md ops g n listed' = true ∧ Lq a') l.length listed a := by
  intro l
  induction l with
  | nil =>
    intro k listed a _ hk _ hB h
    obtain rfl : k = n := by simpa using hk
    exact ⟨by simpa [Region.lexHead] using hB, h⟩
  | cons o l ih =>
    intro k listed a hl hk inv hB h
    have h0 : ops[k]? = some o := by simpa using (hl 0 (by simp)).symm
    simp only [List.length_cons, Region.lexHead, Bool.and_eq_true] at hB
    obtain ⟨⟨hr, hf⟩, hB'⟩ := hB
    have hkn : k < n := by simp only [List.length_cons] at hk; omega
    have hr' : k ∈ Region.ready md ops listed := by simpa using hr
    have hst : qOp P ops C k (wpQuiet P ops C Lq l) a := by unfold qOp; simp only [h0]; exact h
    obtain ⟨v, hy, hK⟩ := yieldsIn_of_qOp h0 hst
    refine head_first h0 (Region.noSelect_spec hsel) hs hc hn hkn (fun listed' a' hL => seqB_ready hL.1) l.length listed a inv (Region.free_spec h0 hf) hr' hy ?_
    exact ih (k + 1) _ _ (fun j hj => by have := hl (j + 1) (by simp; omega); simpa [Nat.add_assoc, Nat.add_comm 1 j] using this) (by simp only [List.length_cons] at hk; omega) (inv.set hr' hkn) hB' hK

/-- the first n operations quiet in C, in the order of the text; then the others one by one, from whatever world of C -/
theorem wp_region_tail {id : Nat} {Q : Exit → Act → World → Prop} {a : Act} {w : World} {l : List Oper} (C : World → Prop) (n : Nat) (hm : P.follows .mixedOrders = true) (hB : Region.lexTailB .any l.toArray n = true) (hC : C { w with drawn := w.drawn + 1 })
    (h : wpQuiet P l.toArray C (fun a' => ∀ w', C w' → wpList P l.toArray Q (l.drop n) a' w') (l.take n) a) : (Code.region id l.toArray true).wp P Q a w := by
  simp only [Region.lexTailB, Bool.and_eq_true, decide_eq_true_eq] at hB
  obtain ⟨⟨⟨⟨hsel, hn⟩, hs⟩, hc⟩, hlex⟩ := hB
  have hn' : n < l.length := by simpa using hn
  have htl : (l.take n).length = n := by simp; omega
  have hdl : (l.drop n).length = l.toArray.size - n := by simp
  have inv0 : HeadInv .any l.toArray n (Array.replicate l.toArray.size false) :=
    ⟨by simp, fun j oj _ hl => (by rw [getD_replicate_false] at hl; cases hl), fun t _ ht => getD_in (by simpa using ht) (getD_replicate_false _ _)⟩
  have H := head_lex (md := .any) (g := l.toArray.size - n) hsel hs hc hn (l.take n) 0 _ a (fun j hj => by
    rw [htl] at hj
    simp [hj]) (by simpa using htl) inv0 (by rw [htl]; exact hlex) h
  have h1 := any_of_head (Q' := Q) (g := l.toArray.size - n) (fun listed a' w' hw' hL => by
    have := wpAny_of_seq (md := .any) (Q' := Q) (l.drop n) n listed a' w' (fun j => by simp [List.getElem?_drop]) (by rw [hdl]; exact hL.1) (hL.2 w' hw')
    rwa [hdl] at this) _ _ _ _ hC H
  rw [htl, show n + (l.toArray.size - n) = l.toArray.size by omega] at h1
  exact wp_region_any hm h1
end
end Go.Proofs.Ytndhbdbfjkmloaa
namespace Go.Proofs.Ytndhbdbfjkmloaa
open Go.RowKit

/-- what a rule may do: succeed without a byte, with some, fail -/
structure Fa where
  (e a f : Bool)
deriving DecidableEq
def Fa.vals (x : Fa) : List Value := [.bool x.e, .bool x.a, .bool x.f]
def starF (x : Fa) : Fa := ⟨x.f, x.a, false⟩
def thenF (a b : Fa) : Fa := ⟨a.e && b.e, a.a && (b.e || b.a) || a.e && b.a, a.f || (a.e || a.a) && b.f⟩
def orF (a b : Fa) : Fa := ⟨a.e || a.f && b.e, a.a || a.f && b.a, a.f && b.f⟩

theorem star_any (e a f : Bool) (w : World) : Calls Try.prog 85 #[.agg #[.bool e, .bool a, .bool f]] w fun e' w' => e' = .returned (.agg #[.bool f, .bool a, .bool false]) ∧ Below w.heap.size w w' := by
  go_enter Try.func85, Try.ntmps85
  go_wp2
  exact bodyPost_ret (v := .agg #[.bool f, .bool a, .bool false]) (by simp [results, Try.results85, go_sem]) rfl ⟨rfl, (by repeat (first | exact Below.refl _ _ | assumption | refine Below.drew ?_ | refine below_drewN ?_ _ | refine Below.alloc ?_ (by first | omega | (simp; omega) | simp) _ | refine Below.setCell ?_ (by first | omega | (simp; omega) | simp) _))⟩

set_option maxHeartbeats 8000000 in
theorem then_any (e a f e2 a2 f2 : Bool) (w : World) : Calls Try.prog 83 #[.agg #[.bool e, .bool a, .bool f], .agg #[.bool e2, .bool a2, .bool f2]] w fun e' w' =>
    e' = .returned (.agg (thenF ⟨e, a, f⟩ ⟨e2, a2, f2⟩).vals.toArray) ∧ Below w.heap.size w w' := by
  go_enter Try.func83, Try.ntmps83
  go_wp2
  all_goals (exact bodyPost_ret (by simp [results, Try.results83, go_sem]; rfl) rfl ⟨by simp [thenF, Fa.vals, *], (by repeat (first | exact Below.refl _ _ | assumption | refine Below.drew ?_ | refine below_drewN ?_ _ | refine Below.alloc ?_ (by first | omega | (simp; omega) | simp) _ | refine Below.setCell ?_ (by first | omega | (simp; omega) | simp) _))⟩)

set_option maxHeartbeats 8000000 in
theorem or_any (e a f e2 a2 f2 : Bool) (w : World) : Calls Try.prog 84 #[.agg #[.bool e, .bool a, .bool f], .agg #[.bool e2, .bool a2, .bool f2]] w fun e' w' =>
    e' = .returned (.agg (orF ⟨e, a, f⟩ ⟨e2, a2, f2⟩).vals.toArray) ∧ Below w.heap.size w w' := by
  go_enter Try.func84, Try.ntmps84
  go_wp2
  all_goals (exact bodyPost_ret (by simp [results, Try.results84, go_sem]; rfl) rfl ⟨by simp [orF, Fa.vals, *], (by repeat (first | exact Below.refl _ _ | assumption | refine Below.drew ?_ | refine below_drewN ?_ _ | refine Below.alloc ?_ (by first | omega | (simp; omega) | simp) _ | refine Below.setCell ?_ (by first | omega | (simp; omega) | simp) _))⟩)
end Go.Proofs.Ytndhbdbfjkmloaa
namespace Go.Proofs.Ytndhbdbfjkmloaa
open Go.RowKit

mutual
/-- what an expression may do, by what is known of the rules -/
def ofE (g : List Rl) (kn : List Fa) : Ex → Fa
  | .mk k a b c d t ks =>
    if k = 1 then ⟨true, false, false⟩
    else if k = 2 then ⟨false, !(a == 0 && (b == 0 && (c == 0 && d == 0))), true⟩
    else if k = 3 then ⟨false, true, true⟩
    else if k = 4 then kn.getD (fnd g t.data.toList).toNat ⟨false, false, false⟩
    else if k = 5 then seqF (ofEs g kn ks)
    else if k = 6 then altF (ofEs g kn ks)
    else if k = 7 then starF (kid0 (ofEs g kn ks))
    else if k = 8 then thenF (kid0 (ofEs g kn ks)) (starF (kid0 (ofEs g kn ks)))
    else if k = 9 then orF (kid0 (ofEs g kn ks)) ⟨true, false, false⟩
    else if k = 10 then ⟨(kid0 (ofEs g kn ks)).e || (kid0 (ofEs g kn ks)).a, false, (kid0 (ofEs g kn ks)).f⟩
    else ⟨(kid0 (ofEs g kn ks)).f, false, (kid0 (ofEs g kn ks)).e || (kid0 (ofEs g kn ks)).a⟩
def ofEs (g : List Rl) (kn : List Fa) : List Ex → List Fa
  | [] => []
  | e :: es => ofE g kn e :: ofEs g kn es
def kid0 : List Fa → Fa
  | [] => ⟨false, false, false⟩
  | x :: _ => x
def seqF : List Fa → Fa
  | [] => ⟨false, false, false⟩
  | x :: xs => xs.foldl thenF x
def altF : List Fa → Fa
  | [] => ⟨false, false, false⟩
  | [x] => x
  | x :: y :: xs => orF x (altF (y :: xs))
end
theorem ofEs_len (g : List Rl) (kn : List Fa) : ∀ ks : List Ex, (ofEs g kn ks).length = ks.length
  | [] => by simp [ofEs]
  | e :: es => by simp [ofEs, ofEs_len g kn es]
theorem ofEs_at (g : List Rl) (kn : List Fa) : ∀ (ks : List Ex) (i : Nat), (ofEs g kn ks)[i]? = (ks[i]?).map (ofE g kn)
  | [], i => by simp [ofEs]
  | e :: es, 0 => by simp [ofEs]
  | e :: es, i + 1 => by simp [ofEs, ofEs_at g kn es i]

/-- an expression that is right, all of whose names are known -/
inductive Rt (g : List Rl) : Ex → Prop
  | mk (k a b c d : Int) (t : ByteArray) (ks : List Ex) : fitB k a b c d t.data.toList ks.length = true → (k = 4 → 0 ≤ fnd g t.data.toList) → (∀ e ∈ ks, Rt g e) → Rt g (.mk k a b c d t ks)

/-! facts in memory -/
def facs (fs : List Fa) : List Value := fs.flatMap Fa.vals
theorem facs_get : ∀ (fs : List Fa) (i j : Nat) (x : Fa), fs[i]? = some x → j < 3 → (facs fs)[i * 3 + j]? = x.vals[j]?
  | [], i, j, x, h, _ => by simp at h
  | y :: fs, 0, j, x, h, hj => by
    simp at h
    subst h
    have : (y.vals ++ facs fs)[0 * 3 + j]? = y.vals[j]? := by rw [Nat.zero_mul, Nat.zero_add, List.getElem?_append_left (by simp [Fa.vals]; omega)]
    exact this
  | y :: fs, i + 1, j, x, h, hj => by
    have h1 := facs_get fs i j x (by simpa using h) hj
    have : (y.vals ++ facs fs)[(i + 1) * 3 + j]? = x.vals[j]? := by
      rw [List.getElem?_append_right (by simp [Fa.vals]; omega), ← h1]
      congr 1
      simp [Fa.vals]
      omega
    exact this
theorem facs_len (fs : List Fa) : (facs fs).length = fs.length * 3 := by
  induction fs with
  | nil => rfl
  | cons x fs ih =>
    show (x.vals ++ facs fs).length = _
    rw [List.length_append, ih]
    simp [Fa.vals]
    omega
structure Three (w : World) (p : Addr) (x : Fa) : Prop where
  c0 : w.cell? p = some (.bool x.e)
  c1 : w.cell? ⟨p.block, p.off + 1, none⟩ = some (.bool x.a)
  c2 : w.cell? ⟨p.block, p.off + 2, none⟩ = some (.bool x.f)
theorem Three.keep {w w' : World} {p : Addr} {x : Fa} (h : Three w p x) (hk : ∀ q : Addr, q.block = p.block → w'.cell? q = w.cell? q) : Three w' p x :=
  ⟨(hk _ rfl).trans h.c0, (hk ⟨p.block, p.off + 1, none⟩ rfl).trans h.c1, (hk ⟨p.block, p.off + 2, none⟩ rfl).trans h.c2⟩
theorem reads_fac {w : World} {B n i : Nat} {A : Option Addr} {fs : List Fa} (h : Reads w B 3 A n (facs fs)) (hi : i < n) :
    ∃ ad x, A = some ad ∧ ad.block < B ∧ fs[i]? = some x ∧ Three w (ad.add (i * 3)) x := by
  obtain ⟨ad, rfl, hb, hc⟩ := h.lies (by omega)
  have hlen : fs.length = n := by have := h.len; rw [facs_len] at this; omega
  have hx : fs[i]? = some fs[i] := List.getElem?_eq_getElem (by omega)
  generalize fs[i] = x at hx
  have h0 := hc _ _ (facs_get fs i 0 x hx (by omega))
  have h1 := hc _ _ (facs_get fs i 1 x hx (by omega))
  have h2 := hc _ _ (facs_get fs i 2 x hx (by omega))
  refine ⟨ad, x, rfl, hb, hx, by simpa using h0, ?_, ?_⟩
  · rw [← add_add'] at h1; exact h1
  · rw [← add_add'] at h2; exact h2

theorem Seven.keep {w w' : World} {p : Addr} {k a b c d : Int} {t : ByteArray} {A : Option Addr} {n cp : Nat} (h : Seven w p k a b c d t A n cp) (hk : ∀ q : Addr, q.block = p.block → w'.cell? q = w.cell? q) : Seven w' p k a b c d t A n cp :=
  ⟨(hk _ rfl).trans h.c0, (hk ⟨p.block, p.off + 1, none⟩ rfl).trans h.c1, (hk ⟨p.block, p.off + 2, none⟩ rfl).trans h.c2, (hk ⟨p.block, p.off + 3, none⟩ rfl).trans h.c3, (hk ⟨p.block, p.off + 4, none⟩ rfl).trans h.c4, (hk ⟨p.block, p.off + 5, none⟩ rfl).trans h.c5, (hk ⟨p.block, p.off + 6, none⟩ rfl).trans h.c6⟩
/-- what a call of well.of leaves -/
def OfQ (x : Fa) (w : World) (e : Ending) (w' : World) : Prop := e = .returned (.agg #[.bool x.e, .bool x.a, .bool x.f]) ∧ Below w.heap.size w w'

set_option maxRecDepth 100000 in
set_option maxHeartbeats 4000000 in
/-- the closure 'kid' of well.of, where well.of does what it must at the kids -/
theorem kid_any {g : List Rl} {kn : List Fa} {A FA KA : Option Addr} {cp fcp n kcp : Nat} {k a b c d : Int} {t : ByteArray} {ks : List Ex} {w : World} {b3 b4 b5 : Nat} (hB : ∀ (j : Nat) (k' a' b' c' d' : Int) (t' : ByteArray) (ks' : List Ex) (A' : Option Addr) (cp' : Nat) (W : World), Below w.heap.size w W → ks[j]? = some (.mk k' a' b' c' d' t' ks') →
      ExIs W w.heap.size (.mk k' a' b' c' d' t' ks') (exCells k' a' b' c' d' t' A' ks'.length cp') →
      Calls Try.prog 69 #[.agg #[.slice A g.length cp], .slice FA n fcp, .agg #[.int .i64 k', .int .u64 a', .int .u64 b', .int .u64 c', .int .u64 d', .string t', .slice A' ks'.length cp']] W (OfQ (ofE g kn (.mk k' a' b' c' d' t' ks')) W))
    (hE : ExIs w w.heap.size (.mk k a b c d t ks) (exCells k a b c d t KA ks.length kcp)) (W : World) (hW : Below w.heap.size w W) (h3 : Blk W b3 35 #[.slice A g.length cp]) (h4 : Blk W b4 112 #[.slice FA n fcp])
    (h5 : Blk W b5 27 #[.int .i64 k, .int .u64 a, .int .u64 b, .int .u64 c, .int .u64 d, .string t, .slice KA ks.length kcp]) (i : Nat) (x : Fa) (hi : (ofEs g kn ks)[i]? = some x) :
    Calls Try.prog 82 #[.int .i64 i, .pointer (some ⟨b3, 0, none⟩), .pointer (some ⟨b4, 0, none⟩), .pointer (some ⟨b5, 0, none⟩)] W (OfQ x W) := by
  have hm := hE.len.2.2.2.1
  have hkc := hE.len.2.2.1
  unfold maxLen at hm
  rw [ofEs_at, Option.map_eq_some_iff] at hi
  obtain ⟨ei, hei, rfl⟩ := hi
  have hik := getElem?_lt hei
  obtain ⟨ad, k', a', b', c', d', t', ks', A', cp', rfl, hab, hej, hE', hS⟩ := (hE.on hW).kid hik
  obtain rfl : ei = .mk k' a' b' c' d' t' ks' := by rw [hej] at hei; injection hei with hei; exact hei.symm
  have hcall := fun (W' : World) (h : Below W.heap.size W W') => hB i k' a' b' c' d' t' ks' A' cp' W' (hW.trans (h.mono hW.size)) hej (hE'.on (h.mono hW.size))
  have hwz := hW.size
  have HC := Lib.hid hcall
  have l3 := h3.lt
  have l4 := h4.lt
  have l5 := h5.lt
  clear hcall hB hej hE' hE hW hei
  generalize ofE g kn (.mk k' a' b' c' d' t' ks') = x at HC
  go_enter Try.func82, Try.ntmps82
  go_wp2_with fail
  have hcc : ∀ W', Below (W.heap.size + 1) (W.alloc (.cells #[.bool false, .bool false, .bool false] 137)) W' →
      W'.cell? ⟨b3, 0, none⟩ = some (.slice A g.length cp) ∧ W'.cell? ⟨b4, 0, none⟩ = some (.slice FA n fcp) ∧ W'.cell? ⟨b5, 6, none⟩ = some (.slice (some ad) ks.length kcp) ∧ Seven W' (ad.add (i * 7)) k' a' b' c' d' t' A' ks'.length cp' := fun W' hW' =>
    ⟨((h3.alloc _).below hW' (by omega)).cell 0, ((h4.alloc _).below hW' (by omega)).cell 0, ((h5.alloc _).below hW' (by omega)).cell 6, hS.keep fun p hp => (hW'.cell (by rw [hp, add_block]; omega)).trans (World.cell?_alloc_lt _ _ _ (by rw [hp, add_block]; omega))⟩
  have HCC := Lib.hid hcc
  clear hcc hS h3 h4 h5
  refine wp_region_tail (C := fun W' => Below (W.heap.size + 1) (W.alloc (.cells #[.bool false, .bool false, .bool false] 137)) W') 8 (by kernel_rfl) (by kernel_rfl) (Below.drew (Below.refl _ _)) ?_
  repeat
    (first | refine wpQuiet_no rfl ?_ | (apply wpQuiet_yes rfl; · (intro W hW; obtain ⟨q1, q2, q3, ⟨s0, s1, s2, s3, s4, s5, s6⟩⟩ := HCC.out W hW; go_simp; first | rfl | (go_at_call 69; refine (HC.out _ ((Below.alloc (Below.refl _ _) (Nat.le_refl _) _).trans (hW.mono (by omega)))).mono ?_; exact fun e w' h => ⟨h.1, hW.trans (h.2.mono (by have := hW.size; simp at this; omega))⟩)))); (try simp only [Act.put, List.setIfInBounds_toArray, List.set_cons_zero, List.set_cons_succ])
  refine wpQuiet_nil ?_
  intro w1 hw1
  have hbr : Blk w1 W.heap.size 137 #[.bool false, .bool false, .bool false] := (blk_at rfl).below hw1 (by omega)
  have z0 : w1.cell? ⟨W.heap.size, 0, none⟩ = some (.bool false) := hbr.cell 0; have z1 : w1.cell? ⟨W.heap.size, 1, none⟩ = some (.bool false) := hbr.cell 1; have z2 : w1.cell? ⟨W.heap.size, 2, none⟩ = some (.bool false) := hbr.cell 2; have f0 := hbr.frozen 0; have f1 := hbr.frozen 1; have f2 := hbr.frozen 2; have e0 : (w1.setCell ⟨W.heap.size, 0, none⟩ (.bool x.e)).cell? ⟨W.heap.size, 0, none⟩ = some (.bool x.e) := (hbr.set_ 0 _).cell 0; have e1 : ((w1.setCell ⟨W.heap.size, 0, none⟩ (.bool x.e)).setCell ⟨W.heap.size, 1, none⟩ (.bool x.a)).cell? ⟨W.heap.size, 1, none⟩ = some (.bool x.a) := ((hbr.set_ 0 _).set_ 1 _).cell 1; have e2 : (((w1.setCell ⟨W.heap.size, 0, none⟩ (.bool x.e)).setCell ⟨W.heap.size, 1, none⟩ (.bool x.a)).setCell ⟨W.heap.size, 2, none⟩ (.bool x.f)).cell? ⟨W.heap.size, 2, none⟩ = some (.bool x.f) := (((hbr.set_ 0 _).set_ 1 _).set_ 2 _).cell 2
  have hb1 : Below W.heap.size W w1 := ((Below.refl _ _).alloc (Nat.le_refl _) _).trans (hw1.mono (by omega))
  have hz := hb1.size
  clear hbr hw1
  simp only [List.drop]
  go_wp2
  exact bodyPost_ret (v := .agg #[.bool x.e, .bool x.a, .bool x.f]) (by simp [results, Try.results82, go_sem, e0, e1, e2]) rfl ⟨rfl, (by repeat (first | exact Below.refl _ _ | assumption | refine Below.drew ?_ | refine below_drewN ?_ _ | refine Below.alloc ?_ (by first | omega | (simp; omega) | simp) _ | refine Below.setCell ?_ (by first | omega | (simp; omega) | simp) _))⟩
end Go.Proofs.Ytndhbdbfjkmloaa
