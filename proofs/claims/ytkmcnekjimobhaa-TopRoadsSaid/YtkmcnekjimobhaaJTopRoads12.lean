/- The writer of code.Make: star, alternatives. The writer of code.Make: alternatives. The writer of code.Make: expressions of one kid, sequences, sets. -/
import Derived.Test.YtkmcnekjimobhaaJTopRoads11
import Derived.Test.YtkmcnekjimobhaaJTopRoads3
namespace Go.Proofs.Ytkmcnekjimobhaa
set_option maxHeartbeats 8000000
set_option maxRecDepth 100000
open Go.RowKit
def cpos : Nat -> List In -> List Nat
  | _, [] => []
  | p, x :: xs => if x.op = 5 then p :: cpos (p + 1) xs else cpos (p + 1) xs
theorem cpos_app : ∀ (p : Nat) (xs ys : List In), cpos p (xs ++ ys) = cpos p xs ++ cpos (p + xs.length) ys
  | p, [], ys => rfl
  | p, x :: xs, ys => by
    rw [List.cons_append, cpos, cpos, cpos_app (p + 1) xs ys, List.length_cons, show p + 1 + xs.length = p + (xs.length + 1) by omega]
    split
    · rfl
    · rfl
theorem cpos_len : ∀ (p : Nat) (xs : List In), (cpos p xs).length <= xs.length
  | p, [] => by simp [cpos]
  | p, x :: xs => by
    have := cpos_len (p + 1) xs
    rw [cpos]
    split
    · simp; omega
    · simp; omega
theorem cpos_none (p : Nat) (x : In) (h : x.op ≠ 5) : cpos p [x] = [] := by rw [cpos, if_neg h, cpos]
theorem setN_at (l : List In) (x : In) (ys : List In) (v : Int) {i : Nat} (hi : i = l.length) : setN (l ++ x :: ys) i v = l ++ { x with n := v } :: ys := by
  subst hi
  unfold setN
  rw [List.getElem?_append_right (Nat.le_refl _), Nat.sub_self]
  simp
def aends : List Ex -> Nat -> List Nat
  | [], _ => []
  | e :: es, p => if es.isEmpty then [] else (p + 1 + lE e) :: aends es (p + 2 + lE e)
theorem aends_lt : ∀ (es : List Ex) (p : Nat), ∀ i ∈ aends es p, i < p + lA es
  | [], p, i, h => by cases h
  | e :: es, p, i, h => by
    rw [aends] at h
    rw [lA]
    split at h
    · cases h
    · rename_i he
      rw [if_neg he]
      rcases List.mem_cons.1 h with rfl | h
      · omega
      · have := aends_lt es _ i h
        omega
theorem alt_fold {g : List Rl} {ad : Nat -> Nat} (fin : Nat) : ∀ (es : List Ex) (l : List In), (aends es l.length).foldl (fun l i => setN l i (fin : Int)) (l ++ cA g ad es l.length 0) = l ++ cA g ad es l.length fin
  | [], l => by rw [aends, cA, cA]; rfl
  | e :: es, l => by
    rw [aends, cA, cA]
    split
    · rfl
    · rw [List.foldl_cons]
      have hp : (l ++ iN 3 ((l.length + 2 + lE e : Nat) : Int) :: cE g ad e (l.length + 1)).length = l.length + 1 + lE e := by rw [List.length_append, List.length_cons, cE_len]; omega
      have h1 : l ++ iN 3 ((l.length + 2 + lE e : Nat) : Int) :: (cE g ad e (l.length + 1) ++ iN 4 ((0 : Nat) : Int) :: cA g ad es (l.length + 2 + lE e) 0) = (l ++ iN 3 ((l.length + 2 + lE e : Nat) : Int) :: cE g ad e (l.length + 1)) ++ iN 4 ((0 : Nat) : Int) :: cA g ad es (l.length + 2 + lE e) 0 := by simp
      rw [h1, setN_at _ _ _ _ hp.symm]
      have hq : ((l ++ iN 3 ((l.length + 2 + lE e : Nat) : Int) :: cE g ad e (l.length + 1)) ++ [iN 4 (fin : Int)]).length = l.length + 2 + lE e := by rw [List.length_append, hp]; simp; omega
      have h2 := alt_fold (g := g) (ad := ad) fin es ((l ++ iN 3 ((l.length + 2 + lE e : Nat) : Int) :: cE g ad e (l.length + 1)) ++ [iN 4 (fin : Int)])
      rw [hq] at h2
      have h3 : ((l ++ iN 3 ((l.length + 2 + lE e : Nat) : Int) :: cE g ad e (l.length + 1)) ++ [iN 4 (fin : Int)]) ++ cA g ad es (l.length + 2 + lE e) 0 = (l ++ iN 3 ((l.length + 2 + lE e : Nat) : Int) :: cE g ad e (l.length + 1)) ++ ({ iN 4 ((0 : Nat) : Int) with n := (fin : Int) } : In) :: cA g ad es (l.length + 2 + lE e) 0 := by
        rw [List.append_assoc]
        rfl
      rw [<- h3, h2]
      simp
def WrQ (wb base : Nat) (gv ov cv : Value) (l' : List In) (cl' : List Nat) (w : World) (e : Ending) (w' : World) : Prop :=
  e = .returned (.tuple #[]) /\ ∃ ov' cv', WrI w' wb base gv ov' cv' l' cl' /\ Mvd w ov.ownBlock ov'.ownBlock /\ Mvd w cv.ownBlock cv'.ownBlock /\ Wk wb ov.ownBlock cv.ownBlock w w'
structure WrS (wb base : Nat) (gv ov cv : Value) (w : World) (l' : List In) (cl' : List Nat) (ov' cv' : Value) (w' : World) : Prop where
  wr : WrI w' wb base gv ov' cv' l' cl'
  m1 : Mvd w ov.ownBlock ov'.ownBlock
  m2 : Mvd w cv.ownBlock cv'.ownBlock
  wk : Wk wb ov.ownBlock cv.ownBlock w w'
section
variable {wb base : Nat} {gv ov cv ov' cv' : Value} {w w' w'' : World} {l l' l'' : List In} {cl cl' cl'' : List Nat} {e : Ending} {x : In} {i : Nat}
theorem WrS.start (h : WrI w wb base gv ov cv l cl) : WrS wb base gv ov cv w l cl ov cv w := ⟨h, Mvd.refl _ _, Mvd.refl _ _, Wk.refl _ _ _ _⟩
theorem WrS.below (h : WrS wb base gv ov cv w l cl ov' cv' w') (hb : Below w'.heap.size w' w'') : WrS wb base gv ov cv w l cl ov' cv' w'' := ⟨h.wr.below hb, h.m1, h.m2, h.wk.trans (Wk.of_below hb : Wk wb ov'.ownBlock cv'.ownBlock w' w'') h.m1 h.m2⟩
theorem WrS.alloc (h : WrS wb base gv ov cv w l cl ov' cv' w') (o : Obj) : WrS wb base gv ov cv w l cl ov' cv' (w'.alloc o) := h.below ((Below.refl _ _).alloc (Nat.le_refl _) o)
theorem WrS.put (h : WrS wb base gv ov cv w l cl ov' cv' w') (hp : PutQ wb base gv ov' cv' l cl x w' e w'') : e = .returned (.int .i64 (l.length : Int)) /\ ∃ ov2, WrS wb base gv ov cv w (l ++ [x]) cl ov2 cv' w'' := by
  obtain ⟨h1, ov2, h2, h3, h4⟩ := hp
  exact ⟨h1, ov2, h2, h.m1.trans h3 h.wk.size, h.m2, h.wk.trans (h4.less (o2 := cv'.ownBlock)) h.m1 h.m2⟩
theorem WrS.here (h : WrS wb base gv ov cv w l cl ov' cv' w') (hp : HereQ wb base gv ov' cv' l cl i w' e w'') : e = .returned (.tuple #[]) /\ WrS wb base gv ov cv w (setN l i l.length) cl ov' cv' w'' := by
  obtain ⟨h1, h2, h4⟩ := hp
  exact ⟨h1, h2, h.m1, h.m2, h.wk.trans (h4.less (o2 := cv'.ownBlock)) h.m1 h.m2⟩
theorem WrS.wrote (h : WrS wb base gv ov cv w l cl ov' cv' w') (hp : WrQ wb base gv ov' cv' l'' cl'' w' e w'') : e = .returned (.tuple #[]) /\ ∃ ov2 cv2, WrS wb base gv ov cv w l'' cl'' ov2 cv2 w'' := by
  obtain ⟨h1, ov2, cv2, h2, h3, h4, h5⟩ := hp
  exact ⟨h1, ov2, cv2, h2, h.m1.trans h3 h.wk.size, h.m2.trans h4 h.wk.size, h.wk.trans h5 h.m1 h.m2⟩
theorem WrS.more {ov2 cv2 : Value} (h : WrS wb base gv ov cv w l cl ov' cv' w') (h2 : WrI w'' wb base gv ov2 cv2 l'' cl'') (h3 : Mvd w' ov'.ownBlock ov2.ownBlock) (h4 : Mvd w' cv'.ownBlock cv2.ownBlock) (h5 : Wk wb ov'.ownBlock cv'.ownBlock w' w'') : WrS wb base gv ov cv w l'' cl'' ov2 cv2 w'' := ⟨h2, h.m1.trans h3 h.wk.size, h.m2.trans h4 h.wk.size, h.wk.trans h5 h.m1 h.m2⟩
theorem WrS.done (h : WrS wb base gv ov cv w l cl ov' cv' w') : WrQ wb base gv ov cv l cl w (.returned (.tuple #[])) w' := ⟨rfl, ov', cv', h.wr, h.m1, h.m2, h.wk⟩
theorem WrS.low (h : WrS wb base gv ov cv w l cl ov' cv' w') (h0 : WrI w wb base gv ov cv l'' cl'') {B : Nat} (hB : B <= wb) : Below B w w' := h0.low h.wk hB
theorem WrS.box (h : WrS wb base gv ov cv w l cl ov' cv' w') (h0 : WrI w wb base gv ov cv l'' cl'') {k : Nat} {T : TypeId} {xs : Array Value} (hb : Blk w k T xs) (h1 : T ≠ 110) (h2 : T ≠ 62) (h3 : T ≠ 3) : Blk w' k T xs := by
  obtain ⟨a1, a2, a3⟩ := h0.other hb h1 h2 h3
  exact h.wk.blk hb a1 a2 a3
end
def WExpr (g : List Rl) (gv : Value) (B : Nat) (A : Option Addr) (cp : Nat) (row : Nat -> List Value) (e : Ex) : Prop := ∀ (cs : List Value) (w : World) (wb base : Nat) (ov cv : Value) (l : List In) (cl : List Nat), ExIs w B e cs -> GrIs w B g A cp row -> WrI w wb base gv ov cv l cl -> B <= wb -> l.length + lE e <= 6000 -> cl.length <= l.length ->
  Calls Try.prog 52 #[.pointer (some ⟨wb, 0, none⟩), .agg cs.toArray] w (WrQ wb base gv ov cv (l ++ cE g id e l.length) (cl ++ cpos l.length (cE g id e l.length)) w)
def WStar (g : List Rl) (gv : Value) (B : Nat) (A : Option Addr) (cp : Nat) (row : Nat -> List Value) (e : Ex) : Prop := ∀ (cs : List Value) (w : World) (wb base : Nat) (ov cv : Value) (l : List In) (cl : List Nat), ExIs w B e cs -> GrIs w B g A cp row -> WrI w wb base gv ov cv l cl -> B <= wb -> l.length + lE e + 2 <= 6000 -> cl.length <= l.length ->
  Calls Try.prog 83 #[.pointer (some ⟨wb, 0, none⟩), .agg cs.toArray] w (WrQ wb base gv ov cv (l ++ starI (cE g id e (l.length + 1)) l.length) (cl ++ cpos l.length (starI (cE g id e (l.length + 1)) l.length)) w)
theorem run_set0 (w : World) : (Instr.build 34 #[]).run Try.prog w = .ok (.agg #[.int .u64 0, .int .u64 0, .int .u64 0, .int .u64 0]) w := by kernel_rfl
theorem star_pos (xs : List In) (p : Nat) : cpos p (starI xs p) = cpos (p + 1) xs := by
  have h3 : ∀ n, ¬ ((iN 3 n).op = 5) := fun n => (by decide : ¬ ((3 : Int) = 5))
  unfold starI
  rw [cpos, if_neg (h3 _), cpos_app, cpos_none _ _ (show ((9 : Int)) ≠ 5 by decide), List.append_nil]
theorem wstar_any {g : List Rl} {gv : Value} {B : Nat} {A : Option Addr} {cp : Nat} {row : Nat -> List Value} {e : Ex} (he : WExpr g gv B A cp row e) : WStar g gv B A cp row e := by
  intro cs w wb base ov cv l cl hE hG hW hB hl hcl
  obtain ⟨k, a, b, d1, d2, t, EA, n, ecp, rfl⟩ := e.parts hE
  have hlo := hW.lo
  have hs0 := run_set0
  have hS := (WrS.start hW).alloc (.cells #[.int .i64 k, .int .u64 a, .int .u64 b, .int .u64 d1, .int .u64 d2, .string t, .slice EA n ecp] 37)
  have hbx : Blk (w.alloc (.cells #[.int .i64 k, .int .u64 a, .int .u64 b, .int .u64 d1, .int .u64 d2, .string t, .slice EA n ecp] 37)) w.heap.size 37 #[.int .i64 k, .int .u64 a, .int .u64 b, .int .u64 d1, .int .u64 d2, .string t, .slice EA n ecp] := blk_at rfl
  have hp1 := put_any hS.wr (by omega) 3 0 0 0 0 0
  have HE := Lib.hid hE
  have HG := Lib.hid hG
  have HW := Lib.hid hW
  have HX := Lib.hid he
  have HP1 := Lib.hid hp1
  have HS := Lib.hid hS
  have HB1 := Lib.hid hbx
  generalize hQ : WrQ wb base gv ov cv (l ++ starI (cE g id e (l.length + 1)) l.length) (cl ++ cpos l.length (starI (cE g id e (l.length + 1)) l.length)) w = Q
  have HQ := Lib.hid hQ
  clear hE hG hW he hp1 hS hbx hQ
  go_enter Try.func83, Try.ntmps83
  go_wp2_with fail
  refine HP1.out.mono ?_
  rintro e1 w1 hq1
  obtain ⟨rfl, ov1, hS1⟩ := HS.out.put hq1
  have hb1 := hS1.wk
  have hbx1 : Blk w1 w.heap.size 37 #[.int .i64 k, .int .u64 a, .int .u64 b, .int .u64 d1, .int .u64 d2, .string t, .slice EA n ecp] := by
    obtain ⟨a1, a2, a3⟩ := HS.out.wr.other HB1.out (by decide) (by decide) (by decide)
    obtain ⟨_, ov2, _, _, hk⟩ := hq1
    exact hk.blk HB1.out a1 a2 (by simp)
  have hlow1 := hS1.low HW.out hB
  have hx := HX.out _ w1 wb base ov1 cv (l ++ [⟨3, 0, 0, 0, 0, 0⟩]) cl (HE.out.on hlow1) (HG.out.on hlow1) hS1.wr hB (by rw [List.length_append]; show l.length + 1 + lE e <= 6000; omega) (by rw [List.length_append]; omega)
  have e1 : (l ++ [(⟨3, 0, 0, 0, 0, 0⟩ : In)]).length = l.length + 1 := by simp
  rw [e1] at hx
  have HE1 := Lib.hid e1
  clear e1
  have x0 := hbx1.cell 0
  have x1 := hbx1.cell 1
  have x2 := hbx1.cell 2
  have x3 := hbx1.cell 3
  have x4 := hbx1.cell 4
  have x5 := hbx1.cell 5
  have x6 := hbx1.cell 6
  have HXX := Lib.hid hx
  have HS1 := Lib.hid hS1
  clear hx hq1 hb1 hbx1 HP1 HB1 HS hS1 hlow1
  go_wp2_with fail
  refine HXX.out.mono ?_
  rintro e2 w2 hq2
  obtain ⟨rfl, ov2, cv2, hS2⟩ := HS1.out.wrote hq2
  have hl2 : (l ++ [(⟨3, 0, 0, 0, 0, 0⟩ : In)] ++ cE g id e (l.length + 1)).length = l.length + 1 + lE e := by rw [List.length_append, cE_len, HE1.out]
  have hp3 := put_any hS2.wr (by rw [hl2]; omega) 9 ((l.length : Int) + 1) 0 0 0 0
  have HP3 := Lib.hid hp3
  have HS2 := Lib.hid hS2
  have HL2 := Lib.hid hl2
  have hw64 : l.length <= 6000 := by omega
  clear hq2 hp3 hS2 x0 x1 x2 x3 x4 x5 x6 HXX HS1 hl2
  go_wp2_with fail
  refine HP3.out.mono ?_
  rintro e3 w3 hq3
  obtain ⟨rfl, ov3, hS3⟩ := HS2.out.put hq3
  have hh := here_any hS3.wr (i := l.length) (by rw [List.length_append, HL2.out]; omega)
  have HH := Lib.hid hh
  have HS3 := Lib.hid hS3
  clear hq3 hh hS3 HP3 HS2
  go_wp2_with fail
  refine HH.out.mono ?_
  rintro e4 w4 hq4
  obtain ⟨rfl, hS4⟩ := HS3.out.here hq4
  have hF : Q (.returned (.tuple #[])) w4 := by
    rw [<- HQ.out]
    have h1 := hS4.done
    have h9 : (l ++ [(⟨3, 0, 0, 0, 0, 0⟩ : In)] ++ cE g id e (l.length + 1) ++ [(⟨9, (l.length : Int) + 1, 0, 0, 0, 0⟩ : In)]).length = l.length + 1 + lE e + 1 := by rw [List.length_append, HL2.out]; rfl
    rw [h9] at h1
    rw [star_pos]
    have e2 : (l ++ [(⟨3, 0, 0, 0, 0, 0⟩ : In)] ++ cE g id e (l.length + 1) ++ [(⟨9, (l.length : Int) + 1, 0, 0, 0, 0⟩ : In)]) = l ++ (⟨3, 0, 0, 0, 0, 0⟩ : In) :: (cE g id e (l.length + 1) ++ [(⟨9, (l.length : Int) + 1, 0, 0, 0, 0⟩ : In)]) := by simp
    rw [e2, setN_at _ _ _ _ rfl] at h1
    have e3 : starI (cE g id e (l.length + 1)) l.length = (⟨3, ((l.length + 1 + lE e + 1 : Nat) : Int), 0, 0, 0, 0⟩ : In) :: (cE g id e (l.length + 1) ++ [(⟨9, (l.length : Int) + 1, 0, 0, 0, 0⟩ : In)]) := by
      unfold starI iN
      rw [cE_len]
      congr 2
      omega
    rw [e3]
    exact h1
  have HF := Lib.hid hF
  clear hF hq4 hS4 HQ
  go_wp2
  go_end0
  exact HF.out
theorem cA_pos {g : List Rl} {ad : Nat -> Nat} (f1 f2 : Nat) : ∀ (es : List Ex) (p q : Nat), cpos q (cA g ad es p f1) = cpos q (cA g ad es p f2)
  | [], _, _ => rfl
  | e :: es, p, q => by
    have h3 : ∀ n, ¬ ((iN 3 n).op = 5) := fun n => (by decide : ¬ ((3 : Int) = 5))
    have h4 : ∀ n, ¬ ((iN 4 n).op = 5) := fun n => (by decide : ¬ ((4 : Int) = 5))
    rw [cA, cA]
    split
    · rfl
    · rw [cpos, if_neg (h3 _), cpos, if_neg (h3 _), cpos_app, cpos_app, cpos, if_neg (h4 _), cpos, if_neg (h4 _), cA_pos f1 f2 es]
theorem fold_len (fin : Int) : ∀ (is : List Nat) (l : List In), (is.foldl (fun l i => setN l i fin) l).length = l.length
  | [], _ => rfl
  | i :: is, l => by rw [List.foldl_cons, fold_len fin is, setN_len]
theorem own_capW {w : World} {base : Nat} {e : TypeId} {size n m c : Nat} {V : Option Addr} {xs : List Value} (h : w.ownsRow base e size (.slice V m c) n xs) : m <= c /\ c <= maxLen := by
  rcases h.2 with ⟨e, e2⟩ | ⟨g', c', cur, e, _, _, e1, e2, _⟩
  · simp only [Value.slice.injEq] at e
    rw [e.2.1, e.2.2]
    exact ⟨Nat.le_refl _, by unfold maxLen; omega⟩
  · simp only [Value.slice.injEq] at e
    rw [e.2.1, e.2.2]
    exact ⟨e1, e2⟩
theorem nV_snoc (l : List Nat) (x : Nat) : nV (l ++ [x]) = nV l ++ [.int .i64 (x : Int)] := by simp [nV]
structure AltI (g : List Rl) (wb base : Nat) (gv ov cv : Value) (w : World) (l : List In) (cl : List Nat) (ks : List Ex) (xb : Nat) (bx : Array Value) (j : Nat) (pre : List In) (E : List Nat) (ev ov' cv' : Value) (wr : World) : Prop where
  st : WrS wb base gv ov cv w (l ++ pre) (cl ++ cpos l.length pre) ov' cv' wr
  ends : wr.ownsRow w.heap.size 3 1 ev E.length (nV E)
  apart : ev.ownBlock = none \/ ev.ownBlock ≠ cv'.ownBlock
  plain : pre ++ cA g id (ks.drop j) (l.length + pre.length) 0 = cA g id ks l.length 0
  pe : E ++ aends (ks.drop j) (l.length + pre.length) = aends ks l.length
  box : Blk wr xb 37 bx
theorem ends_wk {wb base : Nat} {gv ov cv ev : Value} {l : List In} {cl E : List Nat} {B0 : Nat} {w w' : World} (h : WrI w wb base gv ov cv l cl) (hE : w.ownsRow B0 3 1 ev E.length (nV E)) (hb : wb < B0) (ha : ev.ownBlock = none \/ ev.ownBlock ≠ cv.ownBlock) (hk : Wk wb ov.ownBlock cv.ownBlock w w') : w'.ownsRow B0 3 1 ev E.length (nV E) := by
  rcases hE.2 with ⟨rfl, h0⟩ | ⟨g, cap, cur, rfl, h1, h2, h3⟩
  · exact ⟨hE.1, .inl ⟨rfl, h0⟩⟩
  · refine ⟨hE.1, .inr ⟨g, cap, cur, rfl, h1, ?_, h3⟩⟩
    have hx : some g ≠ ov.ownBlock := own_other h.out (h2 : Blk w g 3 cur) (by decide)
    have hy : some g ≠ cv.ownBlock := by
      rcases ha with ha | ha
      · cases ha
      · exact ha
    exact (hk.block g (Array.getElem?_eq_some_iff.1 h2).1 (by omega) hx hy).trans h2
theorem apart_mv {w : World} {ev cv cv' : Value} {B0 n : Nat} {xs : List Value} (hE : w.ownsRow B0 3 1 ev n xs) (ha : ev.ownBlock = none \/ ev.ownBlock ≠ cv.ownBlock) (hm : Mvd w cv.ownBlock cv'.ownBlock) : ev.ownBlock = none \/ ev.ownBlock ≠ cv'.ownBlock := by
  rcases ha with ha | ha
  · exact .inl ha
  · rcases hm with hm | ⟨k, hm, hk⟩
    · exact .inr (by rw [hm]; exact ha)
    · refine .inr fun e => ?_
      rw [hm] at e
      have := (hE.lt k e).2
      omega
theorem WrI.keepBox {w w' : World} {wb base : Nat} {gv ov cv : Value} {l : List In} {cs : List Nat} (h : WrI w wb base gv ov cv l cs) {k : Nat} {xs : Array Value} (hb : Blk w k 37 xs) (hk : Wk wb ov.ownBlock cv.ownBlock w w') : Blk w' k 37 xs := by
  obtain ⟨a1, a2, a3⟩ := h.other hb (by decide) (by decide) (by decide)
  exact hk.blk hb a1 a2 a3
theorem WrS.ends {wb base : Nat} {gv ov cv ov' cv' ev : Value} {w W W' : World} {l : List In} {cl E : List Nat} (h : WrS wb base gv ov cv w l cl ov' cv' W) (hE : W.ownsRow w.heap.size 3 1 ev E.length (nV E)) (ha : ev.ownBlock = none \/ ev.ownBlock ≠ cv'.ownBlock) (hb : wb < w.heap.size) (hg : W.grownBy W' ev.ownBlock) : WrS wb base gv ov cv w l cl ov' cv' W' := by
  have hlt : ∀ k, k < w.heap.size -> some k ≠ ev.ownBlock := fun k hk e => by have := (hE.lt k e.symm).1; omega
  refine ⟨⟨⟨h.wr.lo.1, Nat.le_trans h.wr.lo.2 hg.size⟩, h.wr.box.grown hg (hlt _ hb), h.wr.out.kept hg ?_, h.wr.calls.kept hg ?_⟩, h.m1, h.m2, ⟨hg.os.trans h.wk.os, hg.tape.trans h.wk.tape, hg.output.trans h.wk.output, Nat.le_trans h.wk.size hg.size, fun k h1 h2 h3 h4 => (hg.block k (Nat.lt_of_lt_of_le h1 h.wk.size) (hlt k h1)).trans (h.wk.block k h1 h2 h3 h4)⟩⟩
  · exact own_apart h.wr.out hE (by decide)
  · cases hv : cv'.ownBlock with
    | none => exact .inl rfl
    | some k =>
      refine .inr fun e => ?_
      rcases ha with ha | ha
      · rw [ha] at e; cases e
      · exact ha (by rw [hv]; exact e.symm)
def WAlt (g : List Rl) (gv : Value) (B : Nat) (A : Option Addr) (cp : Nat) (row : Nat -> List Value) (k a b d1 d2 : Int) (t : ByteArray) (ks : List Ex) : Prop := ∀ (cs : List Value) (w : World) (wb base : Nat) (ov cv : Value) (l : List In) (cl : List Nat), ExIs w B (.mk k a b d1 d2 t ks) cs -> GrIs w B g A cp row -> WrI w wb base gv ov cv l cl -> B <= wb -> l.length + lA ks <= 6000 -> cl.length <= l.length ->
  Calls Try.prog 82 #[.pointer (some ⟨wb, 0, none⟩), .agg cs.toArray] w (WrQ wb base gv ov cv (l ++ cA g id ks l.length (l.length + lA ks)) (cl ++ cpos l.length (cA g id ks l.length (l.length + lA ks))) w)
theorem walt_any {g : List Rl} {gv : Value} {B : Nat} {A : Option Addr} {cp : Nat} {row : Nat -> List Value} {k a b d1 d2 : Int} {t : ByteArray} {ks : List Ex} (hks : ∀ e ∈ ks, WExpr g gv B A cp row e) (hne : ks ≠ []) (hk8 : ks.length <= 100) : WAlt g gv B A cp row k a b d1 d2 t ks := by
  intro cs w wb base ov cv l cl hE hG hW hB hl hcl
  obtain ⟨i0, hi0, hz0, hz1, hz2⟩ := info_parts intw_info
  obtain ⟨ht, KA, kcp, rfl, hkc, hkm, _⟩ := hE.shape
  have hm8 : ks.length <= 9223372036854775807 := by unfold maxLen at hkm; omega
  have hk0 : 0 < ks.length := List.length_pos_iff.2 hne
  unfold exCells
  have hlo := hW.lo
  have hs0 := run_set0
  have hS := (WrS.start hW).alloc (.cells #[.int .i64 k, .int .u64 a, .int .u64 b, .int .u64 d1, .int .u64 d2, .string t, .slice KA ks.length kcp] 37)
  have hbx : Blk (w.alloc (.cells #[.int .i64 k, .int .u64 a, .int .u64 b, .int .u64 d1, .int .u64 d2, .string t, .slice KA ks.length kcp] 37)) w.heap.size 37 #[.int .i64 k, .int .u64 a, .int .u64 b, .int .u64 d1, .int .u64 d2, .string t, .slice KA ks.length kcp] := blk_at rfl
  have hI : AltI g wb base gv ov cv w l cl ks w.heap.size #[.int .i64 k, .int .u64 a, .int .u64 b, .int .u64 d1, .int .u64 d2, .string t, .slice KA ks.length kcp] 0 [] [] (.slice none 0 0) ov cv (w.alloc (.cells #[.int .i64 k, .int .u64 a, .int .u64 b, .int .u64 d1, .int .u64 d2, .string t, .slice KA ks.length kcp] 37)) :=
    ⟨by rw [List.append_nil, cpos, List.append_nil]; exact hS, World.ownsRow_nil _ _ _ _, .inl rfl, by simp, by simp, hbx⟩
  generalize hQ : WrQ wb base gv ov cv (l ++ cA g id ks l.length (l.length + lA ks)) (cl ++ cpos l.length (cA g id ks l.length (l.length + lA ks))) w = Q
  have HQ := Lib.hid hQ
  have HE := Lib.hid hE
  have HG := Lib.hid hG
  have HW := Lib.hid hW
  have HK := Lib.hid hks
  have hLA : (cA g id ks l.length 0).length = lA ks := cA_len ks _ _ fun e _ p => cE_len e p
  have HLA := Lib.hid hLA
  clear hQ hE hG hW hks hS hbx hLA hne
  go_enter Try.func82, Try.ntmps82
  go_wp2
  go_loopw [4, 5, 7, 13] (fun ev _ _ iv wr => ∃ (j : Nat) (pre : List In) (E : List Nat) (ov' cv' : Value) (EV : Option Addr) (ec : Nat), ev = .slice EV E.length ec /\ j < ks.length /\ iv = .int .i64 j /\ E.length <= j /\ Hid (AltI g wb base gv ov cv w l cl ks w.heap.size #[.int .i64 k, .int .u64 a, .int .u64 b, .int .u64 d1, .int .u64 d2, .string t, .slice KA ks.length kcp] j pre E ev ov' cv' wr)) (fun _ _ _ iv _ => ks.length - (intOf iv).toNat)
  case atStart => exact ⟨0, [], [], ov, cv, none, 0, rfl, hk0, rfl, by simp, hI⟩
  case round =>
    clear hI
    obtain ⟨j, pre, E, ov', cv', EV, ec, rfl, hj, rfl, hEj, HI⟩ := hrel
    obtain ⟨ad, k', a', b', c', d', t', ks', A', cp', rfl, hab, hej, hE', ⟨e0, e1, e2, e3, e4, e5, e6⟩⟩ := (HE.out.on (HI.out.st.low HW.out hB)).kid hj
    have y6 : wr.cell? ⟨w.heap.size, 6, none⟩ = some (.slice (some ad) ks.length kcp) := HI.out.box.cell 6
    have hbl := HI.out.box.lt
    have hwz := HI.out.st.wk.size
    have hadl : ad.block < wr.heap.size := by have := hlo; omega
    have hSa := HI.out.st.alloc (.cells #[.int .i64 k', .int .u64 a', .int .u64 b', .int .u64 c', .int .u64 d', .string t', .slice A' ks'.length cp'] 37)
    have hEa : (wr.alloc (.cells #[.int .i64 k', .int .u64 a', .int .u64 b', .int .u64 c', .int .u64 d', .string t', .slice A' ks'.length cp'] 37)).ownsRow w.heap.size 3 1 (.slice EV E.length ec) E.length (nV E) := HI.out.ends.alloc _
    have hkx : Blk (wr.alloc (.cells #[.int .i64 k', .int .u64 a', .int .u64 b', .int .u64 c', .int .u64 d', .string t', .slice A' ks'.length cp'] 37)) wr.heap.size 37 #[.int .i64 k', .int .u64 a', .int .u64 b', .int .u64 c', .int .u64 d', .string t', .slice A' ks'.length cp'] := blk_at rfl
    have hbxa := HI.out.box.alloc (.cells #[.int .i64 k', .int .u64 a', .int .u64 b', .int .u64 c', .int .u64 d', .string t', .slice A' ks'.length cp'] 37)
    have hpl := HI.out.plain
    have hpe := HI.out.pe
    rw [drop_of hej] at hpl hpe
    have hlp : pre.length + lE (.mk k' a' b' c' d' t' ks') <= lA ks := by
      have h1 := congrArg List.length hpl
      rw [List.length_append, HLA.out, cA] at h1
      split at h1
      · rw [cE_len] at h1; omega
      · simp only [List.length_cons, List.length_append, cE_len] at h1; omega
    have hclp : (cl ++ cpos l.length pre).length <= (l ++ pre).length := by
      have := cpos_len l.length pre
      rw [List.length_append, List.length_append]
      omega
    obtain ⟨p1, hp1e⟩ : ∃ p1, p1 = l.length + pre.length := ⟨_, rfl⟩
    have hlpre : (l ++ pre).length = p1 := by rw [hp1e]; exact List.length_append
    rw [<- hp1e] at hpl hpe
    have hp16 : p1 + lE (.mk k' a' b' c' d' t' ks') <= 6000 := by omega
    have HP1E := Lib.hid hp1e
    have hcl1 : (cl ++ cpos l.length pre).length <= p1 := by rw [<- hlpre]; exact hclp
    clear hp1e
    have hxk := HK.out _ (List.mem_of_getElem? hej)
    have hlow := hSa.low HW.out hB
    have hEE := hE'.on (w' := wr.alloc (.cells #[.int .i64 k', .int .u64 a', .int .u64 b', .int .u64 c', .int .u64 d', .string t', .slice A' ks'.length cp'] 37)) ((Below.refl _ _).alloc (by omega) _)
    by_cases hlast : j + 1 = ks.length
    · have hdn : ks.drop (j + 1) = [] := by rw [hlast]; exact List.drop_length
      rw [hdn, cA, if_pos (by rfl)] at hpl
      rw [hdn, aends, if_pos (by rfl), List.append_nil] at hpe
      have hcall := hxk _ _ wb base ov' cv' (l ++ pre) (cl ++ cpos l.length pre) hEE (HG.out.on hlow) hSa.wr hB (by rw [hlpre]; omega) hclp
      have hjl : ((j : Int) == (ks.length : Int) - 1) = true := by rw [beq_iff_eq]; omega
      rw [hlpre] at hcall
      unfold exCells at hcall
      have HC := Lib.hid hcall
      have HSA := Lib.hid hSa
      have HEA := Lib.hid hEa
      have hap := HI.out.apart
      have HPL := Lib.hid hpl
      have HPE := Lib.hid hpe
      clear hcall hSa hEa hkx hbxa hpl hpe HI hxk hlow hEE hE' hej hclp hlast hdn
      go_wp2_with fail
      refine HC.out.mono ?_
      rintro e' w2 ⟨rfl, ov2, cv2, hw2, hmv1, hmv2, hwk2⟩
      have hE2 := ends_wk HSA.out.wr HEA.out (by omega) hap hwk2
      have hS2 := HSA.out.more hw2 hmv1 hmv2 hwk2
      have hlast2 : (l ++ pre ++ cE g id (.mk k' a' b' c' d' t' ks') p1) = l ++ cA g id ks l.length 0 := by rw [<- HPL.out, List.append_assoc]
      have hcl2 : (cl ++ cpos l.length pre ++ cpos p1 (cE g id (.mk k' a' b' c' d' t' ks') p1)) = cl ++ cpos l.length (cA g id ks l.length 0) := by rw [<- HPL.out, cpos_app, List.append_assoc, <- HP1E.out]
      rw [hlast2, hcl2] at hS2
      have hap2 := apart_mv HEA.out hap hmv2
      have hle : E.length <= ks.length := by omega
      obtain ⟨F0, hF0⟩ : ∃ F0, F0 = l.length + lA ks := ⟨_, rfl⟩
      have hl0 : (l ++ cA g id ks l.length 0).length = F0 := by rw [List.length_append, HLA.out, hF0]
      have hElt : ∀ i ∈ E, i < F0 := fun i hi => by rw [hF0]; exact aends_lt ks l.length i (by rw [<- HPE.out]; exact hi)
      have hfold : E.foldl (fun l i => setN l i (F0 : Int)) (l ++ cA g id ks l.length 0) = l ++ cA g id ks l.length F0 := by rw [HPE.out]; exact alt_fold F0 ks l
      have hcf : cpos l.length (cA g id ks l.length 0) = cpos l.length (cA g id ks l.length F0) := cA_pos 0 F0 ks _ _
      have HL0 := Lib.hid hl0
      have HELT := Lib.hid hElt
      have HFOLD := Lib.hid hfold
      have HS2 := Lib.hid hS2
      have HE2 := Lib.hid hE2
      have hQ2 : Hid (WrQ wb base gv ov cv (l ++ cA g id ks l.length F0) (cl ++ cpos l.length (cA g id ks l.length 0)) w = Q) := by show _ = _; rw [hcf, hF0]; exact HQ.out
      clear hw2 hS2 hE2 hmv1 hmv2 hwk2 HSA HEA hlast2 hcl2 HC HPL HPE hl0 hElt hfold hF0 hcf HQ hap e0 e1 e2 e3 e4 e5 e6 y6
      generalize hCL : cl ++ cpos l.length (cA g id ks l.length 0) = CL at HS2 hQ2
      generalize hL0 : l ++ cA g id ks l.length 0 = L0 at HL0 HFOLD HS2
      clear hCL hL0
      go_wp2
      rename World => wy
      go_loopw [9, 45] (fun _ iv wr => ∃ (j2 : Nat) (ov3 cv3 : Value), j2 <= E.length /\ iv = .int .i64 j2 /\ ((Value.slice EV E.length ec).ownBlock = none \/ (Value.slice EV E.length ec).ownBlock ≠ cv3.ownBlock) /\ Hid (WrS wb base gv ov cv w ((E.take j2).foldl (fun l i => setN l i (F0 : Int)) L0) CL ov3 cv3 wr) /\ Hid (wr.ownsRow w.heap.size 3 1 (.slice EV E.length ec) E.length (nV E))) (fun _ iv _ => E.length - (intOf iv).toNat)
      case atStart => exact ⟨0, ov2, cv2, by omega, rfl, hap2, HS2, HE2⟩
      case round =>
        clear HS2 HE2 hap2
        obtain ⟨j2, ov3, cv3, hj2, rfl, hap3, HS3, HE3⟩ := hrel
        by_cases hjn : j2 < E.length
        · obtain ⟨x, hx⟩ : ∃ x, E[j2]? = some x := ⟨_, List.getElem?_eq_getElem hjn⟩
          have hxl := HELT.out x (List.mem_of_getElem? hx)
          obtain ⟨gg, cc, hv, hgb, hgl⟩ := HE3.out.form (by omega)
          simp only [Value.slice.injEq, true_and] at hv
          obtain ⟨rfl, rfl⟩ := hv
          have hcell : wr.cell? ⟨gg, j2, none⟩ = some (.int .i64 (x : Int)) := by
            have hlt : j2 < E.length * 1 := by omega
            rw [HE3.out.cellAt _ (by omega)]
            unfold nV
            rw [List.getElem?_map, hx]
            rfl
          have hh := here_any HS3.out.wr (i := x) (by rw [fold_len, HL0.out]; exact hxl)
          have hec := (own_capW HE3.out).1
          have HH := Lib.hid hh
          have HX := Lib.hid hx
          clear hh hx
          go_wp2_with fail
          refine HH.out.mono ?_
          rintro e3 w3 hq3
          have hwk3 := hq3.2.2
          have hE3 := ends_wk HS3.out.wr HE3.out (by omega) hap3 (hwk3.less (o2 := cv3.ownBlock))
          have hh2 := HS3.out.here (i := x) (e := e3) (w'' := w3) hq3
          obtain ⟨rfl, hS4⟩ := hh2
          rw [fold_len, HL0.out] at hS4
          have h5 : (E.take (j2 + 1)).foldl (fun l i => setN l i (F0 : Int)) L0 = setN ((E.take j2).foldl (fun l i => setN l i (F0 : Int)) L0) x F0 := by
            rw [take_succ_of HX.out, List.foldl_append]
            rfl
          have HS4 : Hid (WrS wb base gv ov cv w ((E.take (j2 + 1)).foldl (fun l i => setN l i (F0 : Int)) L0) CL ov3 cv3 w3) := by
            show WrS _ _ _ _ _ _ _ _ _ _ _
            rw [h5]
            exact hS4
          have HE4 := Lib.hid hE3
          clear hq3 hwk3 hS4 h5 hE3 HS3 HE3
          go_wp2
          go_roundw
          case rel => exact ⟨j2 + 1, ov3, cv3, by omega, by go_num, hap3, HS4, HE4⟩
          case measure => simp [intOf]; omega
        · obtain rfl : j2 = E.length := by omega
          have hS4 := HS3.out
          rw [List.take_length, HFOLD.out] at hS4
          have hF : Q (.returned (.tuple #[])) wr := by
            rw [<- hQ2.out]
            exact hS4.done
          have HF := Lib.hid hF
          clear hF hS4 HS3 hQ2
          go_wp2
          go_end0
          exact HF.out
    · have hjlt : j + 1 < ks.length := by omega
      have hdn : (ks.drop (j + 1)).isEmpty = false := by
        cases hd : ks.drop (j + 1) with
        | nil => have := congrArg List.length hd; rw [List.length_drop] at this; simp at this; omega
        | cons x xs => rfl
      rw [cA, hdn, if_neg (by decide)] at hpl
      rw [aends, hdn, if_neg (by decide)] at hpe
      have hlp2 : p1 + 2 + lE (.mk k' a' b' c' d' t' ks') <= 6000 := by
        have hp1e := HP1E.out
        have h1 := congrArg List.length hpl
        rw [List.length_append, HLA.out] at h1
        simp only [List.length_cons, List.length_append, cE_len] at h1
        omega
      have hjl : ((j : Int) == (ks.length : Int) - 1) = false := by rw [beq_eq_false_iff_ne]; omega
      have hp1 := put_any hSa.wr (by rw [hlpre]; omega) 3 0 0 0 0 0
      have HP1 := Lib.hid hp1
      have HSA := Lib.hid hSa
      have HEA := Lib.hid hEa
      have HKX := Lib.hid hkx
      have HBX := Lib.hid hbxa
      have hap := HI.out.apart
      have HPL := Lib.hid hpl
      have HPE := Lib.hid hpe
      have HXK := Lib.hid hxk
      have HEE := Lib.hid hEE
      have HLOW := Lib.hid hlow
      clear hp1 hSa hEa hkx hbxa hpl hpe HI hxk hlow hEE hE' hej hlast hdn
      go_wp2_with fail
      refine HP1.out.mono ?_
      rintro e' w1 ⟨he1, ov1, hw1, hm1, hwk1⟩
      rw [hlpre] at he1
      subst he1
      have hE1 := ends_wk HSA.out.wr HEA.out (by omega) hap (hwk1.less (o2 := cv'.ownBlock))
      have hk1 := HSA.out.wr.keepBox HKX.out (hwk1.less (o2 := cv'.ownBlock))
      have hb1 := HSA.out.wr.keepBox HBX.out (hwk1.less (o2 := cv'.ownBlock))
      have hS1 := HSA.out.more hw1 hm1 (Mvd.refl _ _) (hwk1.less (o2 := cv'.ownBlock))
      have hl1 : (l ++ pre ++ [(⟨3, 0, 0, 0, 0, 0⟩ : In)]).length = p1 + 1 := by rw [List.length_append, hlpre]; rfl
      have hlow1 := hS1.low HW.out hB
      have hx := HXK.out _ w1 wb base ov1 cv' (l ++ pre ++ [⟨3, 0, 0, 0, 0, 0⟩]) (cl ++ cpos l.length pre) (HEE.out.on (HSA.out.wr.low (hwk1.less (o2 := cv'.ownBlock)) hB)) (HG.out.on hlow1) hS1.wr hB (by rw [hl1]; omega) (by rw [hl1]; omega)
      rw [hl1] at hx
      obtain ⟨q, hqe⟩ : ∃ q, q = p1 + 1 + lE (.mk k' a' b' c' d' t' ks') := ⟨_, rfl⟩
      have x0 := hk1.cell 0
      have x1 := hk1.cell 1
      have x2 := hk1.cell 2
      have x3 := hk1.cell 3
      have x4 := hk1.cell 4
      have x5 := hk1.cell 5
      have x6 := hk1.cell 6
      unfold exCells at hx
      have HXX := Lib.hid hx
      have hq6 : q + 1 <= 6000 := by omega
      have HQE := Lib.hid hqe
      clear hqe
      have HS1 := Lib.hid hS1
      have HE1 := Lib.hid hE1
      have HB1 := Lib.hid hb1
      clear hx hS1 hE1 hb1 hk1 hwk1 hw1 hm1 hlow1 HP1 HSA HEA HKX HBX e0 e1 e2 e3 e4 e5 e6 y6
      go_wp2_with fail
      refine HXX.out.mono ?_
      rintro e' w2 ⟨rfl, ov2, cv2, hw2, hm1, hm2, hwk2⟩
      have hE2 := ends_wk HS1.out.wr HE1.out (by omega) hap hwk2
      have hb2 := HS1.out.wr.keepBox HB1.out hwk2
      have hap2 := apart_mv HE1.out hap hm2
      have hS2 := HS1.out.more hw2 hm1 hm2 hwk2
      have hl2 : (l ++ pre ++ [(⟨3, 0, 0, 0, 0, 0⟩ : In)] ++ cE g id (.mk k' a' b' c' d' t' ks') (p1 + 1)).length = q := by rw [List.length_append, hl1, cE_len, HQE.out]
      have hp3 := put_any hS2.wr (by rw [hl2]; omega) 4 0 0 0 0 0
      have HP3 := Lib.hid hp3
      have HS2 := Lib.hid hS2
      have HE2 := Lib.hid hE2
      have HB2 := Lib.hid hb2
      clear hw2 hm1 hm2 hwk2 hE2 hb2 hS2 hp3 HXX HS1 HE1 HB1 hap x0 x1 x2 x3 x4 x5 x6
      go_wp2_with fail
      refine HP3.out.mono ?_
      rintro e' w3 ⟨he3, ov3, hw3, hm3, hwk3⟩
      rw [hl2] at he3
      subst he3
      have hE3 := ends_wk HS2.out.wr HE2.out (by omega) hap2 (hwk3.less (o2 := cv2.ownBlock))
      have hb3 := HS2.out.wr.keepBox HB2.out (hwk3.less (o2 := cv2.ownBlock))
      have hS3 := HS2.out.more hw3 hm3 (Mvd.refl _ _) (hwk3.less (o2 := cv2.ownBlock))
      have hsz3 := hS3.wk.size
      have hw3l : ∀ k, cv2.ownBlock = some k -> k < w3.heap.size := fun k e => (hS3.wr.calls.lt k e).2
      have HS3 := Lib.hid hS3
      have HE3 := Lib.hid hE3
      have HB3 := Lib.hid hb3
      clear hE3 hb3 hS3 hwk3 hw3 hm3 HP3 HS2 HE2 HB2
      go_wp2_with (at_builtin; refine wpList_append_lies _ rfl _ _ _ rfl w.heap.size 3 i0 _ 1 8 Try.underlying100 hi0 hz0 hz1 hz2 rfl (by omega) (.slice EV E.length ec) E.length (nV E) rfl (HE3.out.alloc _) ⟨w3.heap.size, 0, none⟩ 1 1 [.int .i64 (q : Int)] rfl rfl (World.news_of_block (cs := #[.int .i64 (q : Int)]) (t := 3) (fr := (0, 0)) (heap_alloc_new w3 _)) (by simp [Value.oneCell']) (by omega) (by unfold maxLen; omega) (by omega) (by simp; omega) (w3.heap.size + 1) (by simp) ?_; intro gg cap w4 hown4 hgrow hat hlt)
      have hS4 := (HS3.out.alloc (.cells #[.int .i64 (q : Int)] 3)).ends (HE3.out.alloc _) hap2 (by omega) hgrow
      have hb4 := (HB3.out.alloc (.cells #[.int .i64 (q : Int)] 3)).grown hgrow (own_other HE3.out HB3.out (by decide))
      have hap4 : (Value.slice (some ⟨gg, 0, none⟩) (E.length + 1) cap).ownBlock = none \/ (Value.slice (some ⟨gg, 0, none⟩) (E.length + 1) cap).ownBlock ≠ cv2.ownBlock := by
        refine .inr fun e => ?_
        rcases hat with h | h
        · rcases hap2 with h2 | h2
          · rw [h] at h2; cases h2
          · exact h2 (by rw [h]; exact e)
        · have := hw3l gg e.symm
          omega
      have hown5 : w4.ownsRow w.heap.size 3 1 (.slice (some ⟨gg, 0, none⟩) (E.length + 1) cap) (E ++ [q]).length (nV (E ++ [q])) := by
        rw [nV_snoc, List.length_append]
        exact hown4
      have hl4 : (l ++ pre ++ [(⟨3, 0, 0, 0, 0, 0⟩ : In)] ++ cE g id (.mk k' a' b' c' d' t' ks') (p1 + 1) ++ [(⟨4, 0, 0, 0, 0, 0⟩ : In)]).length = q + 1 := by rw [List.length_append, hl2]; rfl
      have hh := here_any hS4.wr (i := p1) (by rw [hl4]; have := HQE.out; omega)
      have HH := Lib.hid hh
      have HS4 := Lib.hid hS4
      have HB4 := Lib.hid hb4
      have HW5 := Lib.hid hown5
      have HL4 := Lib.hid hl4
      clear hh hS4 hb4 hown5 hown4 hgrow hat HS3 HE3 HB3 hl4
      go_wp2_with fail
      refine HH.out.mono ?_
      rintro e' w5 hq5
      have hwk5 := hq5.2.2
      have hE5 := ends_wk HS4.out.wr (E := E ++ [q]) (ev := .slice (some ⟨gg, 0, none⟩) (E.length + 1) cap) HW5.out (by omega) hap4 (hwk5.less (o2 := cv2.ownBlock))
      have hb5 := HS4.out.wr.keepBox HB4.out (hwk5.less (o2 := cv2.ownBlock))
      obtain ⟨rfl, hS5⟩ := HS4.out.here hq5
      have hqe := HQE.out
      have hp1e := HP1E.out
      have hfin : AltI g wb base gv ov cv w l cl ks w.heap.size #[.int .i64 k, .int .u64 a, .int .u64 b, .int .u64 d1, .int .u64 d2, .string t, .slice (some ad) ks.length kcp] (j + 1) (pre ++ iN 3 ((p1 + 2 + lE (.mk k' a' b' c' d' t' ks') : Nat) : Int) :: (cE g id (.mk k' a' b' c' d' t' ks') (p1 + 1) ++ [iN 4 ((0 : Nat) : Int)])) (E ++ [q]) (.slice (some ⟨gg, 0, none⟩) (E.length + 1) cap) ov3 cv2 w5 := by
        have hpl2 : (pre ++ iN 3 ((p1 + 2 + lE (.mk k' a' b' c' d' t' ks') : Nat) : Int) :: (cE g id (.mk k' a' b' c' d' t' ks') (p1 + 1) ++ [iN 4 ((0 : Nat) : Int)])).length = pre.length + 2 + lE (.mk k' a' b' c' d' t' ks') := by
          simp only [List.length_append, List.length_cons, cE_len, List.length_nil]
          omega
        refine ⟨?_, hE5, hap4, ?_, ?_, hb5⟩
        · have h3 : ∀ n, ¬ ((iN 3 n).op = 5) := fun n => (by decide : ¬ ((3 : Int) = 5))
          have e1 : (l ++ pre ++ [(⟨3, 0, 0, 0, 0, 0⟩ : In)] ++ cE g id (.mk k' a' b' c' d' t' ks') (p1 + 1) ++ [(⟨4, 0, 0, 0, 0, 0⟩ : In)]) = (l ++ pre) ++ (⟨3, 0, 0, 0, 0, 0⟩ : In) :: (cE g id (.mk k' a' b' c' d' t' ks') (p1 + 1) ++ [(⟨4, 0, 0, 0, 0, 0⟩ : In)]) := by simp
          rw [HL4.out, e1, setN_at _ _ _ _ hlpre.symm] at hS5
          rw [cpos_app, <- hp1e, cpos, if_neg (h3 _), cpos_app, cpos_none _ (iN 4 ((0 : Nat) : Int)) (show ((4 : Int)) ≠ 5 by decide), List.append_nil, <- List.append_assoc, <- List.append_assoc]
          have e2 : iN 3 ((p1 + 2 + lE (.mk k' a' b' c' d' t' ks') : Nat) : Int) = (⟨3, ((q + 1 : Nat) : Int), 0, 0, 0, 0⟩ : In) := by
            unfold iN
            rw [hqe]
            congr 1
            omega
          rw [e2]
          exact hS5
        · rw [hpl2, show l.length + (pre.length + 2 + lE (.mk k' a' b' c' d' t' ks')) = p1 + 2 + lE (.mk k' a' b' c' d' t' ks') by omega, <- HPL.out]
          simp
        · rw [hpl2, show l.length + (pre.length + 2 + lE (.mk k' a' b' c' d' t' ks')) = p1 + 2 + lE (.mk k' a' b' c' d' t' ks') by omega, <- HPE.out, hqe]
          simp
      have HF := Lib.hid hfin
      clear hfin hq5 hwk5 hE5 hb5 hS5 hqe hp1e HS4 HB4 HW5
      go_wp2
      go_roundw
      case rel => exact ⟨j + 1, _, E ++ [q], ov3, cv2, some ⟨gg, 0, none⟩, cap, by rw [List.length_append]; rfl, hjlt, by go_num, by rw [List.length_append]; show E.length + 1 <= j + 1; omega, HF⟩
      case measure => simp [intOf]; omega
def WEx (g : List Rl) (gv : Value) (B : Nat) (A : Option Addr) (cp : Nat) (row : Nat -> List Value) (k a b d1 d2 : Int) (t : ByteArray) (ks : List Ex) : Prop := WExpr g gv B A cp row (.mk k a b d1 d2 t ks)
theorem wex_empty {g : List Rl} {gv : Value} {B : Nat} {A : Option Addr} {cp : Nat} {row : Nat -> List Value} {a b d1 d2 : Int} {t : ByteArray} : WEx g gv B A cp row 1 a b d1 d2 t [] := by
  intro cs w wb base ov cv l cl hE hG hW hB hl hcl
  obtain ⟨ht, KA, kcp, rfl, hkc, hkm, _⟩ := hE.shape
  unfold exCells
  have hS := (WrS.start hW).alloc (.cells #[.int .i64 1, .int .u64 a, .int .u64 b, .int .u64 d1, .int .u64 d2, .string t, .slice KA 0 kcp] 37)
  have hc : cE g id (.mk 1 a b d1 d2 t []) l.length = [] := by
    rw [cE, if_neg (by decide), if_neg (by decide), if_neg (by decide), if_neg (by decide), if_neg (by decide), cK]
  rw [hc]
  have hF : WrQ wb base gv ov cv (l ++ []) (cl ++ cpos l.length []) w (.returned (.tuple #[])) (w.alloc (.cells #[.int .i64 1, .int .u64 a, .int .u64 b, .int .u64 d1, .int .u64 d2, .string t, .slice KA 0 kcp] 37)) := by
    rw [List.append_nil, cpos, List.append_nil]
    exact hS.done
  have HF := Lib.hid hF
  clear hF hS hW hE hG hc
  go_enter Try.func52, Try.ntmps52
  go_wp2
  go_end0
  exact HF.out
theorem wex_set {g : List Rl} {gv : Value} {B : Nat} {A : Option Addr} {cp : Nat} {row : Nat -> List Value} {a b d1 d2 : Nat} {t : ByteArray} : WEx g gv B A cp row 2 a b d1 d2 t [] := by
  intro cs w wb base ov cv l cl hE hG hW hB hl hcl
  obtain ⟨ht, KA, kcp, rfl, hkc, hkm, _⟩ := hE.shape
  unfold exCells
  have hlE : lE (.mk 2 a b d1 d2 t []) = 1 := by rw [lE, if_pos rfl]
  rw [hlE] at hl
  have hS := (WrS.start hW).alloc (.cells #[.int .i64 2, .int .u64 a, .int .u64 b, .int .u64 d1, .int .u64 d2, .string t, .slice KA 0 kcp] 37)
  have hc : cE g id (.mk 2 a b d1 d2 t []) l.length = [⟨1, 0, a, b, d1, d2⟩] := by
    rw [cE, if_pos rfl]
    rfl
  rw [hc, cpos_none _ _ (show (1 : Int) ≠ 5 by decide), List.append_nil]
  generalize hQ : WrQ wb base gv ov cv (l ++ [⟨1, 0, a, b, d1, d2⟩]) cl w = Q
  have hp1 := put_any hS.wr (by omega) 1 0 a b d1 d2
  have HP := Lib.hid hp1
  have HS := Lib.hid hS
  have HQ := Lib.hid hQ
  clear hp1 hS hW hE hG hc hQ hlE
  go_enter Try.func52, Try.ntmps52
  go_wp2_with fail
  refine HP.out.mono ?_
  rintro e1 w1 hq1
  obtain ⟨rfl, ov1, hS1⟩ := HS.out.put hq1
  have hF : Q (.returned (.tuple #[])) w1 := by rw [<- HQ.out]; exact hS1.done
  have HF := Lib.hid hF
  clear hF hS1 hq1 HQ
  go_wp2
  go_end0
  exact HF.out
theorem wex_seq {g : List Rl} {gv : Value} {B : Nat} {A : Option Addr} {cp : Nat} {row : Nat -> List Value} {a b d1 d2 : Int} {t : ByteArray} {ks : List Ex} (hks : ∀ e ∈ ks, WExpr g gv B A cp row e) : WEx g gv B A cp row 5 a b d1 d2 t ks := by
  intro cs w wb base ov cv l cl hE hG hW hB hl hcl
  obtain ⟨ht, KA, kcp, rfl, hkc, hkm, _⟩ := hE.shape
  have hm8 : ks.length <= 9223372036854775807 := by unfold maxLen at hkm; omega
  unfold exCells
  have hlE : lE (.mk 5 a b d1 d2 t ks) = lS ks := by rw [lE, if_neg (by decide), if_neg (by decide), if_neg (by decide), if_pos rfl]
  have hcE : cE g id (.mk 5 a b d1 d2 t ks) l.length = cS g id ks l.length := by rw [cE, if_neg (by decide), if_neg (by decide), if_neg (by decide), if_pos rfl]
  rw [hlE] at hl
  rw [hcE]
  have hlo := hW.lo
  have hS := (WrS.start hW).alloc (.cells #[.int .i64 5, .int .u64 a, .int .u64 b, .int .u64 d1, .int .u64 d2, .string t, .slice KA ks.length kcp] 37)
  have hI : ∃ pre : List In, pre = [] /\ WrS wb base gv ov cv w (l ++ pre) (cl ++ cpos l.length pre) ov cv (w.alloc (.cells #[.int .i64 5, .int .u64 a, .int .u64 b, .int .u64 d1, .int .u64 d2, .string t, .slice KA ks.length kcp] 37)) := ⟨[], rfl, by rw [List.append_nil, cpos, List.append_nil]; exact hS⟩
  obtain ⟨pre0, hpre0, hI⟩ := hI
  have hP0 : Hid (pre0 ++ cS g id (ks.drop 0) (l.length + pre0.length) = cS g id ks l.length) := by show _ = _; rw [hpre0]; rfl
  generalize hQ : WrQ wb base gv ov cv (l ++ cS g id ks l.length) (cl ++ cpos l.length (cS g id ks l.length)) w = Q
  have HQ := Lib.hid hQ
  have HE := Lib.hid hE
  have HG := Lib.hid hG
  have HW := Lib.hid hW
  have HK := Lib.hid hks
  have HI := Lib.hid hI
  have HLS : Hid ((cS g id ks l.length).length = lS ks) := cS_len ks _ fun e _ p => cE_len e p
  clear hQ hE hG hW hks hS hI hlE hcE hpre0
  go_enter Try.func52, Try.ntmps52
  go_wp2
  go_loopw [66] (fun iv wr => ∃ (j : Nat) (pre : List In) (ov' cv' : Value), j <= ks.length /\ iv = .int .i64 j /\ Hid (pre ++ cS g id (ks.drop j) (l.length + pre.length) = cS g id ks l.length) /\ Hid (WrS wb base gv ov cv w (l ++ pre) (cl ++ cpos l.length pre) ov' cv' wr)) (fun iv _ => ks.length - (intOf iv).toNat)
  case atStart => exact ⟨0, pre0, ov, cv, by omega, rfl, hP0, HI⟩
  case round =>
    clear HI hP0
    obtain ⟨j, pre, ov', cv', hj, rfl, HP, HS⟩ := hrel
    by_cases hjk : j < ks.length
    · obtain ⟨ad, k', a', b', c', d', t', ks', A', cp', rfl, hab, hej, hE', ⟨e0, e1, e2, e3, e4, e5, e6⟩⟩ := (HE.out.on (HS.out.low HW.out hB)).kid hjk
      have hwz := HS.out.wk.size
      have hpl := HP.out
      rw [drop_of hej, cS] at hpl
      have hlp : pre.length + lE (.mk k' a' b' c' d' t' ks') <= lS ks := by
        have h1 := congrArg List.length hpl
        rw [List.length_append, HLS.out, List.length_append, cE_len] at h1
        omega
      have hlpre : (l ++ pre).length = l.length + pre.length := List.length_append
      have hclp : (cl ++ cpos l.length pre).length <= (l ++ pre).length := by
        have := cpos_len l.length pre
        rw [List.length_append, List.length_append]
        omega
      have hSa := HS.out.alloc (.cells #[.int .i64 k', .int .u64 a', .int .u64 b', .int .u64 c', .int .u64 d', .string t', .slice A' ks'.length cp'] 37)
      have hcall := HK.out _ (List.mem_of_getElem? hej) _ _ wb base ov' cv' (l ++ pre) (cl ++ cpos l.length pre) (hE'.on (w' := wr.alloc (.cells #[.int .i64 k', .int .u64 a', .int .u64 b', .int .u64 c', .int .u64 d', .string t', .slice A' ks'.length cp'] 37)) ((Below.refl _ _).alloc (by omega) _)) (HG.out.on (hSa.low HW.out hB)) hSa.wr hB (by rw [hlpre]; omega) hclp
      rw [hlpre] at hcall
      unfold exCells at hcall
      have HC := Lib.hid hcall
      have HSA := Lib.hid hSa
      have HPL := Lib.hid hpl
      clear hcall hSa hpl hE' hej HP HS hclp
      go_wp2_with fail
      refine HC.out.mono ?_
      rintro e' w2 ⟨rfl, ov2, cv2, hw2, hm1, hm2, hk2⟩
      have hS2 := HSA.out.more hw2 hm1 hm2 hk2
      rw [List.append_assoc, List.append_assoc, <- cpos_app] at hS2
      have HS2 := Lib.hid hS2
      have HP2 : Hid ((pre ++ cE g id (.mk k' a' b' c' d' t' ks') (l.length + pre.length)) ++ cS g id (ks.drop (j + 1)) (l.length + (pre ++ cE g id (.mk k' a' b' c' d' t' ks') (l.length + pre.length)).length) = cS g id ks l.length) := by
        show _ = _
        rw [List.append_assoc, List.length_append, cE_len, <- HPL.out, Nat.add_assoc]
      clear hw2 hm1 hm2 hk2 hS2 HC HSA HPL
      go_wp2
      go_roundw
      case rel => exact ⟨j + 1, _, ov2, cv2, by omega, by go_num, HP2, HS2⟩
      case measure => simp [intOf]; omega
    · obtain rfl : j = ks.length := by omega
      have hpl := HP.out
      rw [List.drop_length, cS, List.append_nil] at hpl
      subst hpl
      have hF : Q (.returned (.tuple #[])) wr := by rw [<- HQ.out]; exact HS.out.done
      have HF := Lib.hid hF
      clear hF HS HP HQ HLS
      go_wp2
      go_end0
      exact HF.out
theorem wex_alt {g : List Rl} {gv : Value} {B : Nat} {A : Option Addr} {cp : Nat} {row : Nat -> List Value} {a b d1 d2 : Int} {t : ByteArray} {ks : List Ex} (hks : ∀ e ∈ ks, WExpr g gv B A cp row e) (hne : ks ≠ []) (hk8 : ks.length <= 100) : WEx g gv B A cp row 6 a b d1 d2 t ks := by
  intro cs w wb base ov cv l cl hE hG hW hB hl hcl
  have hE2 := hE
  obtain ⟨ht, KA, kcp, rfl, hkc, hkm, _⟩ := hE.shape
  unfold exCells at hE2 ⊢
  have hlE : lE (.mk 6 a b d1 d2 t ks) = lA ks := by rw [lE, if_neg (by decide), if_neg (by decide), if_neg (by decide), if_neg (by decide), if_pos rfl]
  have hcE : cE g id (.mk 6 a b d1 d2 t ks) l.length = cA g id ks l.length (l.length + lA ks) := by rw [cE, if_neg (by decide), if_neg (by decide), if_neg (by decide), if_neg (by decide), if_pos rfl]
  rw [hlE] at hl
  rw [hcE]
  have hlo := hW.lo
  have hS := (WrS.start hW).alloc (.cells #[.int .i64 6, .int .u64 a, .int .u64 b, .int .u64 d1, .int .u64 d2, .string t, .slice KA ks.length kcp] 37)
  have hlow : Below B w (w.alloc (.cells #[.int .i64 6, .int .u64 a, .int .u64 b, .int .u64 d1, .int .u64 d2, .string t, .slice KA ks.length kcp] 37)) := (Below.refl _ _).alloc (by omega) _
  have hcall := walt_any hks hne hk8 _ _ wb base ov cv l cl (hE2.on hlow) (hG.on hlow) hS.wr hB hl hcl
  generalize hQ : WrQ wb base gv ov cv (l ++ cA g id ks l.length (l.length + lA ks)) (cl ++ cpos l.length (cA g id ks l.length (l.length + lA ks))) w = Q
  have HC := Lib.hid hcall
  have HS := Lib.hid hS
  have HQ := Lib.hid hQ
  clear hcall hS hW hE hE2 hG hcE hQ hlE hks hlow
  go_enter Try.func52, Try.ntmps52
  go_wp2_with fail
  refine HC.out.mono ?_
  rintro e1 w1 ⟨rfl, ov2, cv2, hw2, hm1, hm2, hk2⟩
  have hS1 := HS.out.more hw2 hm1 hm2 hk2
  have hF : Q (.returned (.tuple #[])) w1 := by rw [<- HQ.out]; exact hS1.done
  have HF := Lib.hid hF
  clear hF hS1 hw2 hm1 hm2 hk2 HQ
  go_wp2
  go_end0
  exact HF.out
end Go.Proofs.Ytkmcnekjimobhaa
