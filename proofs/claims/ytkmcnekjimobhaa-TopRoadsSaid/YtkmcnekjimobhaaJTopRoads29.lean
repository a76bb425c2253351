/- A region that draws its order, as in QSpl, with operations that stand behind '&&' or '||': where the guard is decided. (*maker).list: what it keeps while it goes. -/
import Derived.Test.YtkmcnekjimobhaaJTopRoads1
import Derived.Test.YtkmcnekjimobhaaJTopRoads28
namespace Go.Proofs.Ytkmcnekjimobhaa
set_option maxRecDepth 100000
section
variable {P : Program} {ops : Array Oper} {md : Region.Mode} {C : World -> Prop} {late : Nat -> Bool} {Q : Exit -> Act -> World -> Prop}
theorem L.rdg {f i : Nat} {o : Oper} {listed : Array Bool} {a : Act} {w : World} (hi : ops.toList[i]? = some o) (hb : (Region.noSelect ops && (Region.ready md ops listed).contains i && Region.free md ops listed i && lateB md ops late i) = true) (hC : C w) (hw : Region.wanted o (yielded ops a.tmps) = true) {v : Value} (hy : ∀ W, C W -> readW P o a W v)
    (h : wpAnyL2 P md ops C late Q f (listed.setIfInBounds i true) (a.put o.dst v) w) : wpAnyL2 P md ops C late Q (f + 1) listed a w := by
  rw [Array.getElem?_toList] at hi
  simp only [Bool.and_eq_true] at hb
  exact firstL (late_spec hb.2) hi (Region.noSelect_spec hb.1.1.1) f listed a w hC (Region.free_spec hi hb.1.2) (by simpa using hb.1.1.2) (.inl ⟨hw, hy⟩) h
theorem L.skip {f i : Nat} {o : Oper} {listed : Array Bool} {a : Act} {w : World} (hi : ops.toList[i]? = some o) (hb : (Region.noSelect ops && (Region.ready md ops listed).contains i && Region.free md ops listed i && lateB md ops late i) = true) (hC : C w) (hw : Region.wanted o (yielded ops a.tmps) = false)
    (h : wpAnyL2 P md ops C late Q f (listed.setIfInBounds i true) (a.put o.dst undef) w) : wpAnyL2 P md ops C late Q (f + 1) listed a w := by
  rw [Array.getElem?_toList] at hi
  simp only [Bool.and_eq_true] at hb
  exact firstL (late_spec hb.2) hi (Region.noSelect_spec hb.1.1.1) f listed a w hC (Region.free_spec hi hb.1.2) (by simpa using hb.1.1.2) (.inr ⟨hw, rfl⟩) h
theorem L.oneg {f i : Nat} {o : Oper} {listed : Array Bool} {a : Act} {w : World} (hi : ops.toList[i]? = some o) (hb : decide (Region.ready md ops listed = [i]) = true) (hw : Region.wanted o (yielded ops a.tmps) = true)
    (h : stepT P o a w (fun a' w' => (late i = false -> C w') /\ wpAnyL2 P md ops C late Q f (listed.setIfInBounds i true) a' w')) : wpAnyL2 P md ops C late Q (f + 1) listed a w := by
  rw [Array.getElem?_toList] at hi
  have hb := of_decide_eq_true hb
  refine ⟨fun h => (by rw [hb] at h; cases h), fun j hj => ?_⟩
  rw [hb] at hj
  obtain rfl : j = i := by simpa using hj
  unfold goesI
  simp only [hi]
  rw [if_pos hw]
  exact h
end
end Go.Proofs.Ytkmcnekjimobhaa
namespace Go.Proofs.Ytkmcnekjimobhaa
set_option maxRecDepth 100000
open Go.RowKit Go.Maps
theorem run_fails (e a f : Bool) (w : World) : (Instr.field 175 (.agg #[.bool e, .bool a, .bool f]) 2).run Try.prog w = .ok (.bool f) w := by kernel_rfl
theorem fails_any {g : List Rl} {fs : List Fa} {A FA : Option Addr} {cp fcp : Nat} {row : Nat -> List Value} {e : Ex} {k a b c d : Int} {t : ByteArray} {KA : Option Addr} {n kcp : Nat} {w : World} (hlen : fs.length = g.length) (hG : GrIs w w.heap.size g A cp row) (hF : Reads w w.heap.size 3 FA fs.length (facs fs))
    (hE : ExIs w w.heap.size e (exCells k a b c d t KA n kcp)) (hR : Rt g e) : Calls Try.prog 122 #[.agg #[.slice A g.length cp], .slice FA fs.length fcp, .agg (exCells k a b c d t KA n kcp).toArray] w fun r w' => r = .returned (.bool (ofE g fs e).f) /\ Below w.heap.size w w' := by
  have hof := fun W (hW : Below w.heap.size w W) => of_any (fcp := fcp) hlen e _ W (hG.grow hW) ((hF.below hW).more hW.size) (hE.grow hW) hR
  unfold OfQ exCells at hof
  have HO := Lib.hid hof
  clear hof hG hF hE hR hlen
  unfold exCells
  have hrf := run_fails
  generalize ofE g fs e = x at HO ⊢
  go_enter Try.func122, Try.ntmps122
  go_wp2_with fail
  refine (HO.out _ bl).mono ?_
  rintro r w1 ⟨rfl, hb⟩
  have hw1 : Below w.heap.size w w1 := Below.trans bl (hb.mono (by first | omega | (simp; omega) | simp))
  go_wp2
  go_ret
  exact ⟨rfl, hw1⟩
structure KidsT (T : Nat -> Prop) (hi base : Nat) (W : World) (es : List Ex) (V : Option Addr) (c : Nat) (rows : Nat -> List Value) : Prop where
  own : W.ownsRow base 37 7 (.slice V es.length c) es.length (kdF rows es.length)
  kid : ∀ i e, es[i]? = some e -> ExF T hi W e (rows i)
section
variable {T : Nat -> Prop} {hi base : Nat} {W W' : World} {es : List Ex} {V : Option Addr} {c : Nat} {rows : Nat -> List Value}
theorem KidsT.nil (T : Nat -> Prop) (hi base : Nat) (W : World) : KidsT T hi base W [] none 0 (fun _ => []) := ⟨World.ownsRow_nil _ _ _ _, fun i e h => by simp at h⟩
theorem KidsT.below (h : KidsT T hi base W es V c rows) (hT : ∀ b, T b -> b < W.heap.size) (hb : Below W.heap.size W W') : KidsT T hi base W' es V c rows :=
  ⟨own_below h.own hb, fun i e he => (h.kid i e he).keep (W' := W') fun _ hp => hb.cell (hT _ hp)⟩
theorem KidsT.but (h : KidsT T hi base W es V c rows) (hT : ∀ b, T b -> b < W.heap.size) {mb : Nat} (hm : mb < base) (hm' : ¬ T mb) (hg : W.grownBy W' (some mb)) : KidsT T hi base W' es V c rows :=
  ⟨own_far h.own hg hm, fun i e he => (h.kid i e he).keep (W' := W') fun p hp => World.cell?_of_block (hg.block p.block (hT _ hp) (by intro e; injection e with e; rw [e] at hp; exact hm' hp))⟩
theorem KidsT.len7 (h : KidsT T hi base W es V c rows) : ∀ i, i < es.length -> (rows i).length = 7 := fun i hi => (h.kid i _ (List.getElem?_eq_getElem hi)).len7
theorem KidsT.app {V' : Option Addr} {c' : Nat} {es' : List Ex} {rows' : Nat -> List Value} (h : KidsT T hi base W es V c rows) (hT : ∀ b, T b -> b < base /\ b < W.heap.size) (hE : ∀ i e, es'[i]? = some e -> ExF T hi W e (rows' i))
    (hown : W'.ownsRow base 37 7 (.slice V' (es.length + es'.length) c') (es.length + es'.length) (kdF rows es.length ++ kdF rows' es'.length)) (hg : W.grownBy W' (Value.slice V es.length c).ownBlock) :
    KidsT T hi base W' (es ++ es') V' c' (fun i => if i < es.length then rows i else rows' (i - es.length)) := by
  have hl : (es ++ es').length = es.length + es'.length := by simp
  have hkeep : ∀ p : Addr, T p.block -> W'.cell? p = W.cell? p := fun p hp => World.cell?_of_block (hg.block p.block (hT _ hp).2 fun e => by have := (h.own.lt _ e.symm).1; have := (hT _ hp).1; omega)
  constructor
  · rw [hl, kdF_app]
    exact hown
  · intro i x hx
    by_cases hi : i < es.length
    · rw [List.getElem?_append_left hi] at hx
      rw [if_pos hi]
      exact (h.kid i x hx).keep (W' := W') hkeep
    · rw [List.getElem?_append_right (by omega)] at hx
      rw [if_neg hi]
      exact (hE _ x hx).keep (W' := W') hkeep
theorem KidsT.shape (h : KidsT T hi base W es V c rows) : es.length <= c /\ c <= maxLen /\ (V = none -> c = 0) /\ (0 < es.length -> ∃ ad : Addr, V = some ad /\ base <= ad.block /\ ad.block < W.heap.size) /\
    ∀ (i : Nat) (e : Ex) (ad : Addr), es[i]? = some e -> V = some ad -> ∀ j u, (rows i)[j]? = some u -> W.cell? ((ad.add (i * 7)).add j) = some u := by
  have ho := h.own
  have hlt := ho.lt
  have h7 := h.len7
  rcases ho.2 with ⟨h1, h2⟩ | ⟨g1, cap, cur, hv, h3, h4, h5, h6, _⟩
  · injection h1 with e1 e2 e3
    subst e1 e3
    exact ⟨by omega, by unfold maxLen; omega, fun _ => rfl, fun h => by omega, fun _ _ _ _ h => by cases h⟩
  · injection hv with e1 e2 e3
    subst e1 e3
    refine ⟨h5, h6, fun h => (by cases h), fun _ => ⟨_, rfl, (hlt g1 rfl).1, (hlt g1 rfl).2⟩, fun i e ad he hA j u hu => ?_⟩
    injection hA with hA
    subst hA
    rw [add_add']
    exact ho.cells rfl _ u (kdF_get h7 (getElem?_lt he) hu)
theorem KidsT.node {S : Nat -> Prop} {hi' : Nat} (h : KidsT T hi base W es V c rows) (hT : ∀ b, T b -> S b) (hB : ∀ b, base <= b -> b < W.heap.size -> S b) (hh : hi <= hi') (hw : W.heap.size <= hi') (k a b c' d : Int) (t : ByteArray) (ht : t.size <= maxLen) : ExF S hi' W (.mk k a b c' d t es) (exCells k a b c' d t V es.length c) := by
  obtain ⟨h1, h2, h3, h4, h5⟩ := h.shape
  exact ExF.node ht h1 h2 h3 (fun h0 => by obtain ⟨ad, e1, e2, e3⟩ := h4 h0; exact ⟨ad, e1, by omega, hB _ e2 e3⟩) (fun i e he => (h.kid i e he).mono hT hh) h5
end
theorem kdF_one {S : Nat -> Prop} {hi : Nat} {W : World} {es : List Ex} {rows : Nat -> List Value} (h : ∀ i e, es[i]? = some e -> ExF S hi W e (rows i)) : ∀ m, m <= es.length -> ∀ u ∈ kdF rows m, u.oneCell' = true
  | 0, _, u, hu => by cases hu
  | m + 1, hm, u, hu => by
    rw [kdF, List.mem_append] at hu
    rcases hu with hu | hu
    · exact kdF_one h m (by omega) u hu
    · exact ex_one' (h m _ (List.getElem?_eq_getElem (show m < es.length by omega))).is u hu
structure SlI (T : Nat -> Prop) (mb : Nat) (mc : Bool -> Array Value) (eb : Array Value) (w : World) (L : List Ex) (V : Option Addr) (c : Nat) (rows : Nat -> List Value) (m : Bool) (W : World) : Prop where
  grown : w.grownBy W (some mb)
  mak : Blk W mb 138 (mc m)
  box : Blk W w.heap.size 37 eb
  res : Blk W (w.heap.size + 1) 37 #[.int .i64 0, .int .u64 0, .int .u64 0, .int .u64 0, .int .u64 0, .string ⟨#[]⟩, .slice none 0 0]
  kids : KidsT T w.heap.size (w.heap.size + 2) W L V c rows
section
variable {T : Nat -> Prop} {mb : Nat} {mc : Bool -> Array Value} {eb : Array Value} {w W W' : World} {L : List Ex} {V : Option Addr} {c : Nat} {rows : Nat -> List Value} {m : Bool}
theorem SlI.below (h : SlI T mb mc eb w L V c rows m W) (hT : ∀ b, T b -> b < w.heap.size) (hb : Below W.heap.size W W') : SlI T mb mc eb w L V c rows m W' :=
  ⟨grown_below h.grown hb, h.mak.below hb h.mak.lt, h.box.below hb h.box.lt, h.res.below hb h.res.lt, h.kids.below (fun b hb => by have := hT b hb; have := h.box.lt; omega) hb⟩
theorem SlI.app {V' : Option Addr} {c' : Nat} {es' : List Ex} {rows' : Nat -> List Value} (h : SlI T mb mc eb w L V c rows m W) (hT : ∀ b, T b -> b < w.heap.size) (hmb : mb < w.heap.size) (hE : ∀ i e, es'[i]? = some e -> ExF T w.heap.size W e (rows' i))
    (hown : W'.ownsRow (w.heap.size + 2) 37 7 (.slice V' (L.length + es'.length) c') (L.length + es'.length) (kdF rows L.length ++ kdF rows' es'.length)) (hg : W.grownBy W' (Value.slice V L.length c).ownBlock) :
    SlI T mb mc eb w (L ++ es') V' c' (fun i => if i < L.length then rows i else rows' (i - L.length)) m W' := by
  have hne : ∀ b, b < w.heap.size + 2 -> some b ≠ (Value.slice V L.length c).ownBlock := fun b hb e => by have := (h.kids.own.lt b e.symm).1; omega
  have hbx := h.box.lt
  refine ⟨⟨hg.os.trans h.grown.os, hg.tape.trans h.grown.tape, hg.output.trans h.grown.output, Nat.le_trans h.grown.size hg.size, fun q hq hn => (hg.block q (by omega) (hne q (by omega))).trans (h.grown.block q hq hn)⟩,
    h.mak.grown hg (hne _ (by omega)), h.box.grown hg (hne _ (by omega)), h.res.grown hg (hne _ (by omega)), h.kids.app (fun b hb => by have := hT b hb; omega) hE hown hg⟩
end
theorem SlI.more {T : Nat -> Prop} {mb gn gcp fn fcp : Nat} {GA FA : Option Addr} {eb : Array Value} {w W : World} {L : List Ex} {V : Option Addr} {c : Nat} {rows : Nat -> List Value} {m : Bool} (h : SlI T mb (mkS GA FA gn gcp fn fcp) eb w L V c rows m W) (hT : ∀ b, T b -> b < w.heap.size) (hm' : ¬ T mb) (hmb : mb < w.heap.size) :
    SlI T mb (mkS GA FA gn gcp fn fcp) eb w L V c rows true (W.setCell ⟨mb, 2, none⟩ (.bool true)) := by
  have hg : W.grownBy (W.setCell ⟨mb, 2, none⟩ (.bool true)) (some mb) := grown_set ⟨rfl, rfl, rfl, Nat.le_refl _, fun _ _ _ => rfl⟩ _
  exact ⟨grown_set h.grown _, h.mak.set_ 2 _, h.box.far (by simp; omega) _, h.res.far (by simp; omega) _, h.kids.but (fun b hb => by have := hT b hb; have := h.box.lt; omega) (by omega) hm' hg⟩
theorem list_end {lo mb : Nat} {S : Nat -> Prop} {z : Ex} {cs : List Value} {mc : Array Value} {w W : World} {hi : Nat} (hE : ExF S hi W z cs) (hS : ∀ b, S b -> lo <= b /\ b < W.heap.size /\ b ≠ w.heap.size + 1) (hh : hi <= W.heap.size) (hg : w.grownBy W (some mb)) (hmb : mb < w.heap.size) (hm : Blk W mb 138 mc) (u0 u1 u2 u3 u4 u5 u6 : Value) :
    SimQ lo z mb mc w (.returned (.agg cs.toArray)) (((((((W.setCell ⟨w.heap.size + 1, 0, none⟩ u0).setCell ⟨w.heap.size + 1, 1, none⟩ u1).setCell ⟨w.heap.size + 1, 2, none⟩ u2).setCell ⟨w.heap.size + 1, 3, none⟩ u3).setCell ⟨w.heap.size + 1, 4, none⟩ u4).setCell ⟨w.heap.size + 1, 5, none⟩ u5).setCell ⟨w.heap.size + 1, 6, none⟩ u6) :=
  sim_end hE hS hh hg (by omega) hm (by omega) _ _ _ _ _ _ _
end Go.Proofs.Ytkmcnekjimobhaa
