/- A region that draws its order, walked in the order of the text: the two steps of such a walk at whatever class of worlds. A region that draws its order: operations that are quiet in a class of worlds, and behind them all a chain of others (a store at the end): one walk of the text's order serves. well.star, well.then, well.or. What well.of says, plain; facts in memory; the closure of well.of. What is known grows till it is all there is; plain: rounds over a list, each entry by what is known of all. What is known of the rules grows: the order of facts, well.of rises with what is known; plain. A set's words, and what set.Has answers. What a grammar means: plain, by fuel. How the arguments of a law are opened: what a reading of a slice of ints gives the walk. Trees in memory, and how one that came in is opened. -/
import Derived.Deep.QuietTactic
import Derived.StillTail
import Derived.Test.YtkmcnekjimobhaaDoorJTreeCounts1
import Derived.Test.YtkmcnekjimobhaaDoorJTreeCounts0
import Derived.Test.YtkmcnekjimobhaaDoorProg
import Derived.Laws.Bits128
import Derived.ProofKit
import Derived.OpenShut
import Derived.ShutString
import Derived.ChangeOld
import Derived.SizedLaws
import Derived.Test.YtkmcnekjimobhaaDoorRows
namespace Go.Proofs.YtkmcnekjimobhaaDoor

section
variable {P : Program} {ops : Array Oper} {C : World → Prop} {Q : Act → Prop}
theorem wpQuiet_yes {o : Oper} {rest : List Oper} {a : Act} (hw : Region.wanted o (yielded ops a.tmps) = true) (v : Value) (h1 : ∀ w, C w → o.quietAt P a C w v) (h2 : wpQuiet P ops C Q rest (a.put o.dst v)) : wpQuiet P ops C Q (o :: rest) a := by
  show if Region.wanted o (yielded ops a.tmps) = true then _ else _
  rw [if_pos hw]
  exact ⟨v, h1, h2⟩
theorem wpQuiet_no {o : Oper} {rest : List Oper} {a : Act} (hw : Region.wanted o (yielded ops a.tmps) = false) (h2 : wpQuiet P ops C Q rest (a.put o.dst undef)) : wpQuiet P ops C Q (o :: rest) a := by
  show if Region.wanted o (yielded ops a.tmps) = true then _ else _
  rw [if_neg (by rw [hw]; decide)]
  exact h2
end
end Go.Proofs.YtkmcnekjimobhaaDoor
namespace Go.Proofs.YtkmcnekjimobhaaDoor

section
variable {P : Program} {ops : Array Oper} {md : Region.Mode} {C : World → Prop}

/-- whatever order of the first n is picked, all quiet in C, it ends in L -/
def headAny (P : Program) (md : Region.Mode) (ops : Array Oper) (C : World → Prop) (n : Nat) (L : Array Bool → Act → Prop) : Nat → Array Bool → Act → Prop
  | 0, listed, a => L listed a
  | f + 1, listed, a => Region.ready md ops listed ≠ [] ∧ ∀ i ∈ Region.ready md ops listed, i < n ∧ qOp P ops C i (headAny P md ops C n L f (listed.setIfInBounds i true)) a

theorem any_of_head {n g : Nat} {L : Array Bool → Act → Prop} {Q' : Exit → Act → World → Prop} (hL : ∀ listed a w, C w → L listed a → wpAny P md ops Q' g listed a w) :
    ∀ (f : Nat) (listed : Array Bool) (a : Act) (w : World), C w → headAny P md ops C n L f listed a → wpAny P md ops Q' (f + g) listed a w := by
  intro f
  induction f with
  | zero => intro listed a w hw h; rw [Nat.zero_add]; exact hL _ _ _ hw h
  | succ f ih =>
    intro listed a w hw h
    rw [show f + 1 + g = (f + g) + 1 by omega]
    exact ⟨fun h0 => absurd h0 h.1, fun i hi => wpOp_of_qOp hw (fun a' w' hw' h' => ih _ a' w' hw' h') (h.2 i hi).2⟩

theorem head_first {n i : Nat} {oi : Oper} {v : Value} {L : Array Bool → Act → Prop} (hi : ops[i]? = some oi) (hsel : ∀ (j : Nat) (o : Oper) cs b, ops[j]? = some o → o.op ≠ .select cs b)
    (hs : Region.sinkB md ops n = true) (hc : Region.chainB md ops n = true) (hn : n < ops.size) (hin : i < n)
    (hdone : ∀ listed a, L listed a → ∀ j ∈ Region.ready md ops listed, n ≤ j) (f : Nat) :
    ∀ (listed : Array Bool) (a : Act), HeadInv md ops n listed →
      (∀ j oj, ops[j]? = some oj → j ≠ i → listed.getD j true = false → (∀ e ∈ oj.after, Region.binds md e = true → e.on ≠ i) → oi.apart ops oj = true) →
      i ∈ Region.ready md ops listed → YieldsIn P ops C oi v a →
      headAny P md ops C n L f (listed.setIfInBounds i true) (a.put oi.dst v) → headAny P md ops C n L (f + 1) listed a := by
  induction f with
  | zero =>
    intro listed a inv _ hr hy H
    have hun := (mem_ready.1 hr).1
    refine ⟨List.ne_nil_of_mem hr, fun j hj => ?_⟩
    have hjn : j < n := Nat.lt_of_not_le fun h => tail_waits hs hc hn inv _ i rfl hin hun j h hj
    refine ⟨hjn, ?_⟩
    by_cases hji : j = i
    · subst hji; exact hy.qOp hi H
    · have h1 := hdone _ _ H j (ready_mono hj hji)
      omega
  | succ f ih =>
    intro listed a inv hfree hr hy H
    have hun := (mem_ready.1 hr).1
    refine ⟨List.ne_nil_of_mem hr, fun j hj => ?_⟩
    have hjn : j < n := Nat.lt_of_not_le fun h => tail_waits hs hc hn inv _ i rfl hin hun j h hj
    refine ⟨hjn, ?_⟩
    by_cases hji : j = i
    · subst hji; exact hy.qOp hi H
    · obtain ⟨hjun, oj, hoj, hall⟩ := mem_ready.1 hj
      have hnot : ∀ e ∈ oj.after, Region.binds md e = true → e.on ≠ i := fun e he hb heq => by
        have h1 := hall e he hb
        rw [heq, getD_both hun] at h1
        cases h1
      have h2 := qOp_put hoj (hfree j oj hoj hji hjun hnot) (fun cs b => hsel i oi cs b hi) (fun cs b => hsel j oj cs b hoj) hy (H.2 j (ready_mono hj hji)).2
      refine qOp_mono (fun a' h3 => ih (listed.setIfInBounds j true) a' (inv.set hj hjn) (fun k ok hk hki hu hno => ?_) (ready_mono hr (Ne.symm hji)) h3.1 ?_) h2
      · refine hfree k ok hk hki ?_ hno
        by_cases hjk : j = k
        · subst hjk; exact hjun
        · rw [getD_set_ne true hjk] at hu; exact hu
      · rw [Array.setIfInBounds_comm _ _ hji]
        exact h3.2

theorem head_lex {n g : Nat} {Lq : Act → Prop} (hsel : Region.noSelect ops = true) (hs : Region.sinkB md ops n = true) (hc : Region.chainB md ops n = true) (hn : n < ops.size) :
    ∀ (l : List Oper) (k : Nat) (listed : Array Bool) (a : Act), (∀ j, j < l.length → l[j]? = ops[k + j]?) → k + l.length = n → HeadInv md ops n listed →
    Region.lexHead md ops g l.length k listed = true → wpQuiet P ops C Lq l a →
    headAny P md ops C n (fun listed' a' => Region.seqB md ops g n listed' = true ∧ Lq a') l.length listed a := by
  intro l
  induction l with
  | nil =>
    intro k listed a _ hk _ hB h
    obtain rfl : k = n := by simpa using hk
    exact ⟨by simpa [Region.lexHead] using hB, h⟩
  | cons o l ih =>
    intro k listed a hl hk inv hB h
    have h0 : ops[k]? = some o := by simpa using (hl 0 (by simp)).symm
    simp only [List.length_cons, Region.lexHead, Bool.and_eq_true] at hB
    obtain ⟨⟨hr, hf⟩, hB'⟩ := hB
    have hkn : k < n := by simp only [List.length_cons] at hk; omega
    have hr' : k ∈ Region.ready md ops listed := by simpa using hr
    have hst : qOp P ops C k (wpQuiet P ops C Lq l) a := by unfold qOp; simp only [h0]; exact h
    obtain ⟨v, hy, hK⟩ := yieldsIn_of_qOp h0 hst
    refine head_first h0 (Region.noSelect_spec hsel) hs hc hn hkn (fun listed' a' hL => seqB_ready hL.1) l.length listed a inv (Region.free_spec h0 hf) hr' hy ?_
    exact ih (k + 1) _ _ (fun j hj => by have := hl (j + 1) (by simp; omega); simpa [Nat.add_assoc, Nat.add_comm 1 j] using this) (by simp only [List.length_cons] at hk; omega) (inv.set hr' hkn) hB' hK

/-- the first n operations quiet in C, in the order of the text; then the others one by one, from whatever world of C -/
theorem wp_region_tail {id : Nat} {Q : Exit → Act → World → Prop} {a : Act} {w : World} {l : List Oper} (C : World → Prop) (n : Nat) (hm : P.follows .mixedOrders = true) (hB : Region.lexTailB .any l.toArray n = true) (hC : C { w with drawn := w.drawn + 1 })
    (h : wpQuiet P l.toArray C (fun a' => ∀ w', C w' → wpList P l.toArray Q (l.drop n) a' w') (l.take n) a) : (Code.region id l.toArray true).wp P Q a w := by
  simp only [Region.lexTailB, Bool.and_eq_true, decide_eq_true_eq] at hB
  obtain ⟨⟨⟨⟨hsel, hn⟩, hs⟩, hc⟩, hlex⟩ := hB
  have hn' : n < l.length := by simpa using hn
  have htl : (l.take n).length = n := by simp; omega
  have hdl : (l.drop n).length = l.toArray.size - n := by simp
  have inv0 : HeadInv .any l.toArray n (Array.replicate l.toArray.size false) :=
    ⟨by simp, fun j oj _ hl => (by rw [getD_replicate_false] at hl; cases hl), fun t _ ht => getD_in (by simpa using ht) (getD_replicate_false _ _)⟩
  have H := head_lex (md := .any) (g := l.toArray.size - n) hsel hs hc hn (l.take n) 0 _ a (fun j hj => by
    rw [htl] at hj
    simp [hj]) (by simpa using htl) inv0 (by rw [htl]; exact hlex) h
  have h1 := any_of_head (Q' := Q) (g := l.toArray.size - n) (fun listed a' w' hw' hL => by
    have := wpAny_of_seq (md := .any) (Q' := Q) (l.drop n) n listed a' w' (fun j => by simp [List.getElem?_drop]) (by rw [hdl]; exact hL.1) (hL.2 w' hw')
    rwa [hdl] at this) _ _ _ _ hC H
  rw [htl, show n + (l.toArray.size - n) = l.toArray.size by omega] at h1
  exact wp_region_any hm h1
end
end Go.Proofs.YtkmcnekjimobhaaDoor
namespace Go.Proofs.YtkmcnekjimobhaaDoor
open Go.RowKit

/-- what a rule may do: succeed without a byte, with some, fail -/
structure Fa where
  (e a f : Bool)
deriving DecidableEq
def Fa.vals (x : Fa) : List Value := [.bool x.e, .bool x.a, .bool x.f]
def starF (x : Fa) : Fa := ⟨x.f, x.a, false⟩
def thenF (a b : Fa) : Fa := ⟨a.e && b.e, a.a && (b.e || b.a) || a.e && b.a, a.f || (a.e || a.a) && b.f⟩
def orF (a b : Fa) : Fa := ⟨a.e || a.f && b.e, a.a || a.f && b.a, a.f && b.f⟩

theorem star_any (e a f : Bool) (w : World) : Calls Tryd.prog 83 #[.agg #[.bool e, .bool a, .bool f]] w fun e' w' => e' = .returned (.agg #[.bool f, .bool a, .bool false]) ∧ Below w.heap.size w w' := by
  go_enter Tryd.func83, Tryd.ntmps83
  go_wp2
  exact bodyPost_ret (v := .agg #[.bool f, .bool a, .bool false]) (by simp [results, Tryd.results83, go_sem]) rfl ⟨rfl, (by repeat (first | exact Below.refl _ _ | assumption | refine Below.drew ?_ | refine below_drewN ?_ _ | refine Below.alloc ?_ (by first | omega | (simp; omega) | simp) _ | refine Below.setCell ?_ (by first | omega | (simp; omega) | simp) _))⟩

set_option maxHeartbeats 8000000 in
theorem then_any (e a f e2 a2 f2 : Bool) (w : World) : Calls Tryd.prog 81 #[.agg #[.bool e, .bool a, .bool f], .agg #[.bool e2, .bool a2, .bool f2]] w fun e' w' =>
    e' = .returned (.agg (thenF ⟨e, a, f⟩ ⟨e2, a2, f2⟩).vals.toArray) ∧ Below w.heap.size w w' := by
  go_enter Tryd.func81, Tryd.ntmps81
  go_wp2
  all_goals (exact bodyPost_ret (by simp [results, Tryd.results81, go_sem]; rfl) rfl ⟨by simp [thenF, Fa.vals, *], (by repeat (first | exact Below.refl _ _ | assumption | refine Below.drew ?_ | refine below_drewN ?_ _ | refine Below.alloc ?_ (by first | omega | (simp; omega) | simp) _ | refine Below.setCell ?_ (by first | omega | (simp; omega) | simp) _))⟩)

set_option maxHeartbeats 8000000 in
theorem or_any (e a f e2 a2 f2 : Bool) (w : World) : Calls Tryd.prog 82 #[.agg #[.bool e, .bool a, .bool f], .agg #[.bool e2, .bool a2, .bool f2]] w fun e' w' =>
    e' = .returned (.agg (orF ⟨e, a, f⟩ ⟨e2, a2, f2⟩).vals.toArray) ∧ Below w.heap.size w w' := by
  go_enter Tryd.func82, Tryd.ntmps82
  go_wp2
  all_goals (exact bodyPost_ret (by simp [results, Tryd.results82, go_sem]; rfl) rfl ⟨by simp [orF, Fa.vals, *], (by repeat (first | exact Below.refl _ _ | assumption | refine Below.drew ?_ | refine below_drewN ?_ _ | refine Below.alloc ?_ (by first | omega | (simp; omega) | simp) _ | refine Below.setCell ?_ (by first | omega | (simp; omega) | simp) _))⟩)
end Go.Proofs.YtkmcnekjimobhaaDoor
namespace Go.Proofs.YtkmcnekjimobhaaDoor
open Go.RowKit

mutual
/-- what an expression may do, by what is known of the rules -/
def ofE (g : List Rl) (kn : List Fa) : Ex → Fa
  | .mk k a b c d t ks =>
    if k = 1 then ⟨true, false, false⟩
    else if k = 2 then ⟨false, !(a == 0 && (b == 0 && (c == 0 && d == 0))), true⟩
    else if k = 3 then ⟨false, true, true⟩
    else if k = 4 then kn.getD (fnd g t.data.toList).toNat ⟨false, false, false⟩
    else if k = 5 then seqF (ofEs g kn ks)
    else if k = 6 then altF (ofEs g kn ks)
    else if k = 7 then starF (kid0 (ofEs g kn ks))
    else if k = 8 then thenF (kid0 (ofEs g kn ks)) (starF (kid0 (ofEs g kn ks)))
    else if k = 9 then orF (kid0 (ofEs g kn ks)) ⟨true, false, false⟩
    else if k = 10 then ⟨(kid0 (ofEs g kn ks)).e || (kid0 (ofEs g kn ks)).a, false, (kid0 (ofEs g kn ks)).f⟩
    else ⟨(kid0 (ofEs g kn ks)).f, false, (kid0 (ofEs g kn ks)).e || (kid0 (ofEs g kn ks)).a⟩
def ofEs (g : List Rl) (kn : List Fa) : List Ex → List Fa
  | [] => []
  | e :: es => ofE g kn e :: ofEs g kn es
def kid0 : List Fa → Fa
  | [] => ⟨false, false, false⟩
  | x :: _ => x
def seqF : List Fa → Fa
  | [] => ⟨false, false, false⟩
  | x :: xs => xs.foldl thenF x
def altF : List Fa → Fa
  | [] => ⟨false, false, false⟩
  | [x] => x
  | x :: y :: xs => orF x (altF (y :: xs))
end
theorem ofEs_len (g : List Rl) (kn : List Fa) : ∀ ks : List Ex, (ofEs g kn ks).length = ks.length
  | [] => by simp [ofEs]
  | e :: es => by simp [ofEs, ofEs_len g kn es]
theorem ofEs_at (g : List Rl) (kn : List Fa) : ∀ (ks : List Ex) (i : Nat), (ofEs g kn ks)[i]? = (ks[i]?).map (ofE g kn)
  | [], i => by simp [ofEs]
  | e :: es, 0 => by simp [ofEs]
  | e :: es, i + 1 => by simp [ofEs, ofEs_at g kn es i]

/-- an expression that is right, all of whose names are known -/
inductive Rt (g : List Rl) : Ex → Prop
  | mk (k a b c d : Int) (t : ByteArray) (ks : List Ex) : fitB k a b c d t.data.toList ks.length = true → (k = 4 → 0 ≤ fnd g t.data.toList) → (∀ e ∈ ks, Rt g e) → Rt g (.mk k a b c d t ks)

/-! facts in memory -/
def facs (fs : List Fa) : List Value := fs.flatMap Fa.vals
theorem facs_get : ∀ (fs : List Fa) (i j : Nat) (x : Fa), fs[i]? = some x → j < 3 → (facs fs)[i * 3 + j]? = x.vals[j]?
  | [], i, j, x, h, _ => by simp at h
  | y :: fs, 0, j, x, h, hj => by
    simp at h
    subst h
    have : (y.vals ++ facs fs)[0 * 3 + j]? = y.vals[j]? := by rw [Nat.zero_mul, Nat.zero_add, List.getElem?_append_left (by simp [Fa.vals]; omega)]
    exact this
  | y :: fs, i + 1, j, x, h, hj => by
    have h1 := facs_get fs i j x (by simpa using h) hj
    have : (y.vals ++ facs fs)[(i + 1) * 3 + j]? = x.vals[j]? := by
      rw [List.getElem?_append_right (by simp [Fa.vals]; omega), ← h1]
      congr 1
      simp [Fa.vals]
      omega
    exact this
theorem facs_len (fs : List Fa) : (facs fs).length = fs.length * 3 := by
  induction fs with
  | nil => rfl
  | cons x fs ih =>
    show (x.vals ++ facs fs).length = _
    rw [List.length_append, ih]
    simp [Fa.vals]
    omega
structure Three (w : World) (p : Addr) (x : Fa) : Prop where
  c0 : w.cell? p = some (.bool x.e)
  c1 : w.cell? ⟨p.block, p.off + 1, none⟩ = some (.bool x.a)
  c2 : w.cell? ⟨p.block, p.off + 2, none⟩ = some (.bool x.f)
theorem Three.keep {w w' : World} {p : Addr} {x : Fa} (h : Three w p x) (hk : ∀ q : Addr, q.block = p.block → w'.cell? q = w.cell? q) : Three w' p x :=
  ⟨(hk _ rfl).trans h.c0, (hk ⟨p.block, p.off + 1, none⟩ rfl).trans h.c1, (hk ⟨p.block, p.off + 2, none⟩ rfl).trans h.c2⟩
theorem reads_fac {w : World} {B n i : Nat} {A : Option Addr} {fs : List Fa} (h : Reads w B 3 A n (facs fs)) (hi : i < n) :
    ∃ ad x, A = some ad ∧ ad.block < B ∧ fs[i]? = some x ∧ Three w (ad.add (i * 3)) x := by
  obtain ⟨ad, rfl, hb, hc⟩ := h.lies (by omega)
  have hlen : fs.length = n := by have := h.len; rw [facs_len] at this; omega
  have hx : fs[i]? = some fs[i] := List.getElem?_eq_getElem (by omega)
  generalize fs[i] = x at hx
  have h0 := hc _ _ (facs_get fs i 0 x hx (by omega))
  have h1 := hc _ _ (facs_get fs i 1 x hx (by omega))
  have h2 := hc _ _ (facs_get fs i 2 x hx (by omega))
  refine ⟨ad, x, rfl, hb, hx, by simpa using h0, ?_, ?_⟩
  · rw [← add_add'] at h1; exact h1
  · rw [← add_add'] at h2; exact h2

theorem Seven.keep {w w' : World} {p : Addr} {k a b c d : Int} {t : ByteArray} {A : Option Addr} {n cp : Nat} (h : Seven w p k a b c d t A n cp) (hk : ∀ q : Addr, q.block = p.block → w'.cell? q = w.cell? q) : Seven w' p k a b c d t A n cp :=
  ⟨(hk _ rfl).trans h.c0, (hk ⟨p.block, p.off + 1, none⟩ rfl).trans h.c1, (hk ⟨p.block, p.off + 2, none⟩ rfl).trans h.c2, (hk ⟨p.block, p.off + 3, none⟩ rfl).trans h.c3, (hk ⟨p.block, p.off + 4, none⟩ rfl).trans h.c4, (hk ⟨p.block, p.off + 5, none⟩ rfl).trans h.c5, (hk ⟨p.block, p.off + 6, none⟩ rfl).trans h.c6⟩
/-- what a call of well.of leaves -/
def OfQ (x : Fa) (w : World) (e : Ending) (w' : World) : Prop := e = .returned (.agg #[.bool x.e, .bool x.a, .bool x.f]) ∧ Below w.heap.size w w'

set_option maxRecDepth 100000 in
set_option maxHeartbeats 4000000 in
/-- the closure 'kid' of well.of, where well.of does what it must at the kids -/
theorem kid_any {g : List Rl} {kn : List Fa} {A FA KA : Option Addr} {cp fcp n kcp : Nat} {k a b c d : Int} {t : ByteArray} {ks : List Ex} {w : World} {b3 b4 b5 : Nat} (hB : ∀ (j : Nat) (k' a' b' c' d' : Int) (t' : ByteArray) (ks' : List Ex) (A' : Option Addr) (cp' : Nat) (W : World), Below w.heap.size w W → ks[j]? = some (.mk k' a' b' c' d' t' ks') →
      ExIs W w.heap.size (.mk k' a' b' c' d' t' ks') (exCells k' a' b' c' d' t' A' ks'.length cp') →
      Calls Tryd.prog 63 #[.agg #[.slice A g.length cp], .slice FA n fcp, .agg #[.int .i64 k', .int .u64 a', .int .u64 b', .int .u64 c', .int .u64 d', .string t', .slice A' ks'.length cp']] W (OfQ (ofE g kn (.mk k' a' b' c' d' t' ks')) W))
    (hE : ExIs w w.heap.size (.mk k a b c d t ks) (exCells k a b c d t KA ks.length kcp)) (W : World) (hW : Below w.heap.size w W) (h3 : Blk W b3 24 #[.slice A g.length cp]) (h4 : Blk W b4 100 #[.slice FA n fcp])
    (h5 : Blk W b5 65 #[.int .i64 k, .int .u64 a, .int .u64 b, .int .u64 c, .int .u64 d, .string t, .slice KA ks.length kcp]) (i : Nat) (x : Fa) (hi : (ofEs g kn ks)[i]? = some x) :
    Calls Tryd.prog 80 #[.int .i64 i, .pointer (some ⟨b3, 0, none⟩), .pointer (some ⟨b4, 0, none⟩), .pointer (some ⟨b5, 0, none⟩)] W (OfQ x W) := by
  have hm := hE.len.2.2.2.1
  have hkc := hE.len.2.2.1
  unfold maxLen at hm
  rw [ofEs_at, Option.map_eq_some_iff] at hi
  obtain ⟨ei, hei, rfl⟩ := hi
  have hik := getElem?_lt hei
  obtain ⟨ad, k', a', b', c', d', t', ks', A', cp', rfl, hab, hej, hE', hS⟩ := (hE.on hW).kid hik
  obtain rfl : ei = .mk k' a' b' c' d' t' ks' := by rw [hej] at hei; injection hei with hei; exact hei.symm
  have hcall := fun (W' : World) (h : Below W.heap.size W W') => hB i k' a' b' c' d' t' ks' A' cp' W' (hW.trans (h.mono hW.size)) hej (hE'.on (h.mono hW.size))
  have hwz := hW.size
  have HC := Lib.hid hcall
  have l3 := h3.lt
  have l4 := h4.lt
  have l5 := h5.lt
  clear hcall hB hej hE' hE hW hei
  generalize ofE g kn (.mk k' a' b' c' d' t' ks') = x at HC
  go_enter Tryd.func80, Tryd.ntmps80
  go_wp2_with fail
  have hcc : ∀ W', Below (W.heap.size + 1) (W.alloc (.cells #[.bool false, .bool false, .bool false] 125)) W' →
      W'.cell? ⟨b3, 0, none⟩ = some (.slice A g.length cp) ∧ W'.cell? ⟨b4, 0, none⟩ = some (.slice FA n fcp) ∧ W'.cell? ⟨b5, 6, none⟩ = some (.slice (some ad) ks.length kcp) ∧ Seven W' (ad.add (i * 7)) k' a' b' c' d' t' A' ks'.length cp' := fun W' hW' =>
    ⟨((h3.alloc _).below hW' (by omega)).cell 0, ((h4.alloc _).below hW' (by omega)).cell 0, ((h5.alloc _).below hW' (by omega)).cell 6, hS.keep fun p hp => (hW'.cell (by rw [hp, add_block]; omega)).trans (World.cell?_alloc_lt _ _ _ (by rw [hp, add_block]; omega))⟩
  have HCC := Lib.hid hcc
  clear hcc hS h3 h4 h5
  refine wp_region_tail (C := fun W' => Below (W.heap.size + 1) (W.alloc (.cells #[.bool false, .bool false, .bool false] 125)) W') 8 (by kernel_rfl) (by kernel_rfl) (Below.drew (Below.refl _ _)) ?_
  repeat
    (first | refine wpQuiet_no rfl ?_ | (apply wpQuiet_yes rfl; · (intro W hW; obtain ⟨q1, q2, q3, ⟨s0, s1, s2, s3, s4, s5, s6⟩⟩ := HCC.out W hW; go_simp; first | rfl | (go_at_call 63; refine (HC.out _ ((Below.alloc (Below.refl _ _) (Nat.le_refl _) _).trans (hW.mono (by omega)))).mono ?_; exact fun e w' h => ⟨h.1, hW.trans (h.2.mono (by have := hW.size; simp at this; omega))⟩)))); (try simp only [Act.put, List.setIfInBounds_toArray, List.set_cons_zero, List.set_cons_succ])
  refine wpQuiet_nil ?_
  intro w1 hw1
  have hbr : Blk w1 W.heap.size 125 #[.bool false, .bool false, .bool false] := (blk_at rfl).below hw1 (by omega)
  have z0 : w1.cell? ⟨W.heap.size, 0, none⟩ = some (.bool false) := hbr.cell 0; have z1 : w1.cell? ⟨W.heap.size, 1, none⟩ = some (.bool false) := hbr.cell 1; have z2 : w1.cell? ⟨W.heap.size, 2, none⟩ = some (.bool false) := hbr.cell 2; have f0 := hbr.frozen 0; have f1 := hbr.frozen 1; have f2 := hbr.frozen 2; have e0 : (w1.setCell ⟨W.heap.size, 0, none⟩ (.bool x.e)).cell? ⟨W.heap.size, 0, none⟩ = some (.bool x.e) := (hbr.set_ 0 _).cell 0; have e1 : ((w1.setCell ⟨W.heap.size, 0, none⟩ (.bool x.e)).setCell ⟨W.heap.size, 1, none⟩ (.bool x.a)).cell? ⟨W.heap.size, 1, none⟩ = some (.bool x.a) := ((hbr.set_ 0 _).set_ 1 _).cell 1; have e2 : (((w1.setCell ⟨W.heap.size, 0, none⟩ (.bool x.e)).setCell ⟨W.heap.size, 1, none⟩ (.bool x.a)).setCell ⟨W.heap.size, 2, none⟩ (.bool x.f)).cell? ⟨W.heap.size, 2, none⟩ = some (.bool x.f) := (((hbr.set_ 0 _).set_ 1 _).set_ 2 _).cell 2
  have hb1 : Below W.heap.size W w1 := ((Below.refl _ _).alloc (Nat.le_refl _) _).trans (hw1.mono (by omega))
  have hz := hb1.size
  clear hbr hw1
  simp only [List.drop]
  go_wp2
  exact bodyPost_ret (v := .agg #[.bool x.e, .bool x.a, .bool x.f]) (by simp [results, Tryd.results80, go_sem, e0, e1, e2]) rfl ⟨rfl, (by repeat (first | exact Below.refl _ _ | assumption | refine Below.drew ?_ | refine below_drewN ?_ _ | refine Below.alloc ?_ (by first | omega | (simp; omega) | simp) _ | refine Below.setCell ?_ (by first | omega | (simp; omega) | simp) _))⟩
end Go.Proofs.YtkmcnekjimobhaaDoor
namespace Go.Proofs.YtkmcnekjimobhaaDoor

/-- entries that are ordered, and of which each greater one weighs less -/
structure Ord (T : Type) where
  le : T → T → Prop
  wt : T → Nat
  refl : ∀ x, le x x
  trans : ∀ {x y z}, le x y → le y z → le x z
  lt : ∀ {x y}, le x y → x ≠ y → wt y < wt x

section
variable {T : Type}
/-- one list lies below another -/
def LeL (O : Ord T) (l m : List T) : Prop := l.length = m.length ∧ ∀ (i : Nat) (x y : T), l[i]? = some x → m[i]? = some y → O.le x y
/-- what is known says no more than what comes of it -/
def Low (O : Ord T) (nx : List T → Nat → T) (kn : List T) : Prop := ∀ (i : Nat) (x : T), kn[i]? = some x → O.le x (nx kn i)
def Mono (O : Ord T) (nx : List T → Nat → T) (n : Nat) : Prop := ∀ (l m : List T), l.length = n → LeL O l m → ∀ i, O.le (nx l i) (nx m i)
def wtL (O : Ord T) (l : List T) : Nat := (l.map O.wt).sum

theorem wtL_set (O : Ord T) : ∀ (l : List T) (i : Nat) (x y : T), l[i]? = some x → O.wt y < O.wt x → wtL O (l.set i y) < wtL O l
  | [], i, x, y, h, _ => by simp at h
  | z :: l, 0, x, y, h, hw => by
    simp at h
    subst h
    simp [wtL]
    exact hw
  | z :: l, i + 1, x, y, h, hw => by
    have := wtL_set O l i x y (by simpa using h) hw
    simp [wtL] at this ⊢
    exact this
theorem leL_set (O : Ord T) {l : List T} {i : Nat} {x y : T} (hx : l[i]? = some x) (h : O.le x y) : LeL O l (l.set i y) := by
  refine ⟨by simp, fun j u v hu hv => ?_⟩
  by_cases hij : i = j
  · subst hij
    rw [hx] at hu
    rw [List.getElem?_set_self (List.getElem?_eq_some_iff.1 hx).1] at hv
    injection hu with hu
    injection hv with hv
    rw [← hu, ← hv]
    exact h
  · rw [List.getElem?_set_ne hij] at hv
    rw [hu] at hv
    injection hv with hv
    rw [← hv]
    exact O.refl _
theorem LeL.refl (O : Ord T) (l : List T) : LeL O l l := ⟨rfl, fun i x y hx hy => by rw [hx] at hy; injection hy with hy; rw [hy]; exact O.refl _⟩

end
section
variable {T : Type} [DecidableEq T]
def roundG (nx : List T → Nat → T) : Nat → Nat → List T → Bool → List T × Bool
  | 0, _, kn, more => (kn, more)
  | m + 1, i, kn, more => if kn[i]? = some (nx kn i) then roundG nx m (i + 1) kn more else roundG nx m (i + 1) (kn.set i (nx kn i)) true
def growG (nx : List T → Nat → T) : Nat → List T → List T
  | 0, kn => kn
  | f + 1, kn => if (roundG nx kn.length 0 kn false).2 = true then growG nx f (roundG nx kn.length 0 kn false).1 else (roundG nx kn.length 0 kn false).1

omit [DecidableEq T] in
/-- a step that says something new -/
theorem low_step {O : Ord T} {nx : List T → Nat → T} {kn : List T} {i : Nat} (hm : Mono O nx kn.length) (hL : Low O nx kn) (hi : i < kn.length) (hne : kn[i]? ≠ some (nx kn i)) :
    Low O nx (kn.set i (nx kn i)) ∧ wtL O (kn.set i (nx kn i)) < wtL O kn := by
  have hx : kn[i]? = some kn[i] := List.getElem?_eq_getElem hi
  generalize kn[i] = x at hx
  have hle := hL i x hx
  have hne' : x ≠ nx kn i := fun e => hne (by rw [hx, e])
  refine ⟨fun j u hu => ?_, wtL_set O kn i x _ hx (O.lt hle hne')⟩
  have h1 := hm kn _ rfl (leL_set O hx hle) j
  refine O.trans ?_ h1
  by_cases hij : i = j
  · subst hij
    rw [List.getElem?_set_self hi] at hu
    injection hu with hu
    rw [hu]
    exact O.refl _
  · rw [List.getElem?_set_ne hij] at hu
    exact hL j u hu

/-- what holds through rounds -/
theorem round_keeps {nx : List T → Nat → T} {P : List T → Prop} (hP : ∀ kn i, P kn → i < kn.length → kn[i]? ≠ some (nx kn i) → P (kn.set i (nx kn i))) :
    ∀ (m i : Nat) (kn : List T) (more : Bool), i + m = kn.length → P kn → P (roundG nx m i kn more).1 ∧ (roundG nx m i kn more).1.length = kn.length
  | 0, i, kn, more, _, h => ⟨h, rfl⟩
  | m + 1, i, kn, more, hi, h => by
    unfold roundG
    split
    · exact round_keeps hP m (i + 1) kn more (by omega) h
    · rename_i hne
      have := round_keeps hP m (i + 1) (kn.set i (nx kn i)) true (by simp; omega) (hP kn i h (by omega) hne)
      rw [List.length_set] at this
      exact this
theorem grow_keeps {nx : List T → Nat → T} {P : List T → Prop} (hP : ∀ kn i, P kn → i < kn.length → kn[i]? ≠ some (nx kn i) → P (kn.set i (nx kn i))) :
    ∀ (f : Nat) (kn : List T), P kn → P (growG nx f kn) ∧ (growG nx f kn).length = kn.length
  | 0, kn, h => ⟨h, rfl⟩
  | f + 1, kn, h => by
    have h1 := round_keeps hP kn.length 0 kn false (by omega) h
    unfold growG
    split
    · have := grow_keeps hP f _ h1.1
      exact ⟨this.1, this.2.trans h1.2⟩
    · exact h1
/-- a round that says nothing new -/
theorem round_still {nx : List T → Nat → T} : ∀ (m i : Nat) (kn : List T) (more : Bool), (roundG nx m i kn more).2 = false → more = false ∧ (roundG nx m i kn more).1 = kn ∧ ∀ j, i ≤ j → j < i + m → kn[j]? = some (nx kn j)
  | 0, i, kn, more, h => ⟨h, rfl, fun j h1 h2 => by omega⟩
  | m + 1, i, kn, more, h => by
    unfold roundG at h ⊢
    split at h
    · rename_i he
      rw [if_pos he]
      obtain ⟨h1, h2, h3⟩ := round_still m (i + 1) kn more h
      refine ⟨h1, h2, fun j hj1 hj2 => ?_⟩
      by_cases hij : i = j
      · subst hij; exact he
      · exact h3 j (by omega) (by omega)
    · have := (round_still m (i + 1) (kn.set i (nx kn i)) true h).1
      cases this
/-- what a round makes lighter -/
theorem round_wt {O : Ord T} {nx : List T → Nat → T} {n : Nat} (hm : Mono O nx n) : ∀ (m i : Nat) (kn : List T) (more : Bool), kn.length = n → i + m = n → Low O nx kn →
    wtL O (roundG nx m i kn more).1 ≤ wtL O kn ∧ ((roundG nx m i kn more).2 = true → more = true ∨ wtL O (roundG nx m i kn more).1 < wtL O kn)
  | 0, i, kn, more, _, _, _ => ⟨Nat.le_refl _, fun h => .inl h⟩
  | m + 1, i, kn, more, hn, hi, hL => by
    unfold roundG
    split
    · exact round_wt hm m (i + 1) kn more hn (by omega) hL
    · rename_i hne
      obtain ⟨h1, h2⟩ := low_step (by rw [hn]; exact hm) hL (by omega) hne
      have h3 := round_wt hm m (i + 1) (kn.set i (nx kn i)) true (by simp; exact hn) (by omega) h1
      exact ⟨by omega, fun _ => .inr (by omega)⟩
/-- at the end all is known -/
theorem grow_fix {O : Ord T} {nx : List T → Nat → T} {n : Nat} (hm : Mono O nx n) : ∀ (f : Nat) (kn : List T), kn.length = n → Low O nx kn → wtL O kn < f → ∀ j, j < n → (growG nx f kn)[j]? = some (nx (growG nx f kn) j)
  | 0, kn, _, _, h => by omega
  | f + 1, kn, hn, hL, hw => fun j hj => by
    have hk := round_keeps (nx := nx) (P := fun l => l.length = n ∧ Low O nx l) (fun l i h hi hne => ⟨by simp; exact h.1, (low_step (by rw [h.1]; exact hm) h.2 hi hne).1⟩) kn.length 0 kn false (by omega) ⟨hn, hL⟩
    have hr := round_wt hm kn.length 0 kn false hn (by omega) hL
    unfold growG
    split
    · rename_i h2
      rcases hr.2 h2 with h3 | h3
      · cases h3
      · exact grow_fix hm f _ hk.1.1 hk.1.2 (by omega) j hj
    · rename_i h2
      obtain ⟨_, h4, h5⟩ := round_still kn.length 0 kn false (by simpa using h2)
      rw [h4]
      exact h5 j (by omega) (by omega)
end
end Go.Proofs.YtkmcnekjimobhaaDoor
namespace Go.Proofs.YtkmcnekjimobhaaDoor
open Go.RowKit

def bwt (b : Bool) : Nat := if b then 0 else 1
def faOrd : Ord Fa where
  le x y := (x.e = true → y.e = true) ∧ (x.a = true → y.a = true) ∧ (x.f = true → y.f = true)
  wt x := bwt x.e + bwt x.a + bwt x.f
  refl x := ⟨id, id, id⟩
  trans h k := ⟨fun e => k.1 (h.1 e), fun e => k.2.1 (h.2.1 e), fun e => k.2.2 (h.2.2 e)⟩
  lt := by
    rintro ⟨a, b, c⟩ ⟨a', b', c'⟩
    revert a b c a' b' c'
    decide
def boOrd : Ord Bool where
  le x y := x = true → y = true
  wt := bwt
  refl x := id
  trans h k := fun e => k (h e)
  lt := by decide

theorem bot_le (y : Fa) : faOrd.le ⟨false, false, false⟩ y := ⟨(fun h => by cases h), (fun h => by cases h), (fun h => by cases h)⟩
theorem then_mono {a b c d : Fa} (h : faOrd.le a b) (k : faOrd.le c d) : faOrd.le (thenF a c) (thenF b d) := by
  obtain ⟨a1, a2, a3⟩ := a
  obtain ⟨b1, b2, b3⟩ := b
  obtain ⟨c1, c2, c3⟩ := c
  obtain ⟨d1, d2, d3⟩ := d
  obtain ⟨h1, h2, h3⟩ := h
  obtain ⟨k1, k2, k3⟩ := k
  simp only at h1 h2 h3 k1 k2 k3
  refine ⟨?_, ?_, ?_⟩ <;> simp only [thenF, Bool.and_eq_true, Bool.or_eq_true] <;> grind
theorem or_mono {a b c d : Fa} (h : faOrd.le a b) (k : faOrd.le c d) : faOrd.le (orF a c) (orF b d) := by
  obtain ⟨h1, h2, h3⟩ := h
  obtain ⟨k1, k2, k3⟩ := k
  refine ⟨?_, ?_, ?_⟩ <;> simp only [orF, Bool.and_eq_true, Bool.or_eq_true] <;> grind
theorem star_mono {a b : Fa} (h : faOrd.le a b) : faOrd.le (starF a) (starF b) := ⟨h.2.2, h.2.1, id⟩
theorem seq_mono : ∀ {l m : List Fa}, LeL faOrd l m → faOrd.le (seqF l) (seqF m)
  | [], [], _ => by simp only [seqF]; exact faOrd.refl _
  | [], y :: ys, h => by have := h.1; simp at this
  | x :: xs, [], h => by have := h.1; simp at this
  | x :: xs, y :: ys, h => by
    simp only [seqF]
    have h0 := h.2 0 x y rfl rfl
    have ht : LeL faOrd xs ys := ⟨by have := h.1; simpa using this, fun i u v hu hv => h.2 (i + 1) u v (by simpa using hu) (by simpa using hv)⟩
    clear h
    induction xs generalizing ys x y with
    | nil =>
      cases ys with
      | nil => exact h0
      | cons z zs => have := ht.1; simp at this
    | cons u us ih =>
      cases ys with
      | nil => have := ht.1; simp at this
      | cons z zs =>
        simp only [List.foldl_cons]
        exact ih (thenF x u) (thenF y z) zs (then_mono h0 (ht.2 0 u z rfl rfl)) ⟨by have := ht.1; simpa using this, fun i p q hp hq => ht.2 (i + 1) p q (by simpa using hp) (by simpa using hq)⟩
theorem alt_mono : ∀ {l m : List Fa}, LeL faOrd l m → faOrd.le (altF l) (altF m)
  | [], [], _ => by simp only [altF]; exact faOrd.refl _
  | [], y :: ys, h => by have := h.1; simp at this
  | x :: xs, [], h => by have := h.1; simp at this
  | [x], [y], h => by simp only [altF]; exact h.2 0 x y rfl rfl
  | [x], y :: z :: zs, h => by have := h.1; simp at this
  | x :: u :: us, [y], h => by have := h.1; simp at this
  | x :: u :: us, y :: z :: zs, h => by
    simp only [altF]
    exact or_mono (h.2 0 x y rfl rfl) (alt_mono (l := u :: us) (m := z :: zs) ⟨by have := h.1; simpa using this, fun i p q hp hq => h.2 (i + 1) p q (by simpa using hp) (by simpa using hq)⟩)
theorem kid_mono : ∀ {l m : List Fa}, LeL faOrd l m → faOrd.le (kid0 l) (kid0 m)
  | [], [], _ => by simp only [kid0]; exact faOrd.refl _
  | [], y :: ys, h => by have := h.1; simp at this
  | x :: xs, [], h => by have := h.1; simp at this
  | x :: xs, y :: ys, h => by simp only [kid0]; exact h.2 0 x y rfl rfl
theorem ofEs_mono {g : List Rl} {l m : List Fa} (ks : List Ex) (ih : ∀ e ∈ ks, faOrd.le (ofE g l e) (ofE g m e)) : LeL faOrd (ofEs g l ks) (ofEs g m ks) := by
  refine ⟨by rw [ofEs_len, ofEs_len], fun i x y hx hy => ?_⟩
  rw [ofEs_at, Option.map_eq_some_iff] at hx hy
  obtain ⟨e, he, rfl⟩ := hx
  obtain ⟨e', he', rfl⟩ := hy
  rw [he] at he'
  injection he' with he'
  subst he'
  exact ih e (List.mem_of_getElem? he)
theorem of_mono {g : List Rl} {l m : List Fa} (h : LeL faOrd l m) (e : Ex) : faOrd.le (ofE g l e) (ofE g m e) := by
  refine Ex.ind (P := fun e => faOrd.le (ofE g l e) (ofE g m e)) ?_ e
  intro k a b c d t ks ih
  have hk := ofEs_mono ks ih
  have h0 := kid_mono hk
  rw [ofE, ofE]
  by_cases k1 : k = 1
  · rw [if_pos k1, if_pos k1]
    exact faOrd.refl _
  rw [if_neg k1, if_neg k1]
  by_cases k2 : k = 2
  · rw [if_pos k2, if_pos k2]
    exact faOrd.refl _
  rw [if_neg k2, if_neg k2]
  by_cases k3 : k = 3
  · rw [if_pos k3, if_pos k3]
    exact faOrd.refl _
  rw [if_neg k3, if_neg k3]
  by_cases k4 : k = 4
  · rw [if_pos k4, if_pos k4]
    have hl := h.1
    by_cases hi : (fnd g t.data.toList).toNat < l.length
    · have h1 : l[(fnd g t.data.toList).toNat]? = some l[(fnd g t.data.toList).toNat] := List.getElem?_eq_getElem hi
      have h2 : m[(fnd g t.data.toList).toNat]? = some (m[(fnd g t.data.toList).toNat]'(by omega)) := List.getElem?_eq_getElem (by omega)
      have := h.2 _ _ _ h1 h2
      simp only [List.getD, h1, h2, Option.getD_some]
      exact this
    · simp only [List.getD, List.getElem?_eq_none (show l.length ≤ (fnd g t.data.toList).toNat by omega), List.getElem?_eq_none (show m.length ≤ (fnd g t.data.toList).toNat by omega)]
      exact faOrd.refl _
  rw [if_neg k4, if_neg k4]
  by_cases k5 : k = 5
  · rw [if_pos k5, if_pos k5]
    exact seq_mono hk
  rw [if_neg k5, if_neg k5]
  by_cases k6 : k = 6
  · rw [if_pos k6, if_pos k6]
    exact alt_mono hk
  rw [if_neg k6, if_neg k6]
  by_cases k7 : k = 7
  · rw [if_pos k7, if_pos k7]
    exact star_mono h0
  rw [if_neg k7, if_neg k7]
  by_cases k8 : k = 8
  · rw [if_pos k8, if_pos k8]
    exact then_mono h0 (star_mono h0)
  rw [if_neg k8, if_neg k8]
  by_cases k9 : k = 9
  · rw [if_pos k9, if_pos k9]
    exact or_mono h0 (faOrd.refl _)
  rw [if_neg k9, if_neg k9]
  obtain ⟨h1, h2, h3⟩ := h0
  have h12 : ((kid0 (ofEs g l ks)).e || (kid0 (ofEs g l ks)).a) = true → ((kid0 (ofEs g m ks)).e || (kid0 (ofEs g m ks)).a) = true := by
    simp only [Bool.or_eq_true]
    rintro (h | h)
    · exact .inl (h1 h)
    · exact .inr (h2 h)
  by_cases k10 : k = 10
  · rw [if_pos k10, if_pos k10]
    exact ⟨h12, id, h3⟩
  rw [if_neg k10, if_neg k10]
  exact ⟨h3, id, h12⟩

/-- the facts of a rule, by what is known of all -/
def nxF (g : List Rl) (kn : List Fa) (i : Nat) : Fa := match g[i]? with
  | some r => ofE g kn r.2
  | none => ⟨false, false, false⟩
def factsG (g : List Rl) : List Fa := growG (nxF g) (wtL faOrd (List.replicate g.length ⟨false, false, false⟩) + 1) (List.replicate g.length ⟨false, false, false⟩)
theorem nxF_mono (g : List Rl) (n : Nat) : Mono faOrd (nxF g) n := by
  intro l m _ h i
  unfold nxF
  split
  · exact of_mono h _
  · exact faOrd.refl _
theorem low_zero (g : List Rl) : Low faOrd (nxF g) (List.replicate g.length ⟨false, false, false⟩) := by
  intro i x hx
  rw [List.getElem?_replicate] at hx
  split at hx
  · injection hx with hx
    subst hx
    exact bot_le _
  · cases hx
theorem facts_len (g : List Rl) : (factsG g).length = g.length := by
  unfold factsG
  rw [(grow_keeps (nx := nxF g) (P := fun _ => True) (fun _ _ _ _ _ => trivial) _ _ trivial).2]
  simp
theorem facts_fix (g : List Rl) (i : Nat) (hi : i < g.length) : (factsG g)[i]? = some (nxF g (factsG g) i) :=
  grow_fix (nxF_mono g g.length) _ _ (by simp) (low_zero g) (by omega) i hi
end Go.Proofs.YtkmcnekjimobhaaDoor
namespace Go.Proofs.YtkmcnekjimobhaaDoor
open Go.RowKit

def hasN (l : List Nat) (b : Nat) : Bool := (l.getD (b / 64) 0).testBit (b % 64)
def vals (l : List Nat) : Value := .agg #[.int .u64 (l.getD 0 0 : Nat), .int .u64 (l.getD 1 0 : Nat), .int .u64 (l.getD 2 0 : Nat), .int .u64 (l.getD 3 0 : Nat)]
def Words (l : List Nat) : Prop := ∀ i, l.getD i 0 < 18446744073709551616

theorem and63_u8 : ∀ b : Fin 256, bits .and .u8 ((b : Nat) : Int) 63 = (((b : Nat) % 64 : Nat) : Int) := by decide +kernel
set_option maxRecDepth 100000 in
theorem has_any (l : List Nat) (hl : Words l) (b : Nat) (hb : b < 256) (w : World) :
    Calls Tryd.prog 29 #[vals l, .int .u8 b] w fun e w' => e = .returned (.bool (hasN l b)) ∧ Below w.heap.size w w' := by
  have hc : ∀ W : World, Hid (Blk W w.heap.size 62 #[.int .u64 (l.getD 0 0 : Nat), .int .u64 (l.getD 1 0 : Nat), .int .u64 (l.getD 2 0 : Nat), .int .u64 (l.getD 3 0 : Nat)] → W.cell? ⟨w.heap.size, b / 64, none⟩ = some (.int .u64 (l.getD (b / 64) 0 : Nat))) := fun W hb => by
    rcases (by omega : b / 64 = 0 ∨ b / 64 = 1 ∨ b / 64 = 2 ∨ b / 64 = 3) with h | h | h | h <;> rw [h]
    · exact hb.cell 0
    · exact hb.cell 1
    · exact hb.cell 2
    · exact hb.cell 3
  have hc0 := (hc (w.alloc (.cells #[.int .u64 (l.getD 0 0 : Nat), .int .u64 (l.getD 1 0 : Nat), .int .u64 (l.getD 2 0 : Nat), .int .u64 (l.getD 3 0 : Nat)] 62))).out (blk_at rfl)
  clear hc
  have hx := hl (b / 64)
  clear hl
  unfold vals
  have hand := and63_u8 ⟨b, hb⟩
  simp only at hand
  obtain ⟨q, hq⟩ : ∃ q : Nat, b / 64 = q := ⟨_, rfl⟩
  have hqi : (b : Int) / 64 = (q : Int) := by omega
  have hq0 : (0 : Int) ≤ (q : Int) := by omega
  have hq4 : (q : Int) < 4 := by omega
  obtain ⟨k, hk⟩ : ∃ k : Nat, b % 64 = k := ⟨_, rfl⟩
  rw [hk] at hand
  have HH : Hid (hasN l b = decide ((l.getD (b / 64) 0) / 2 ^ k % 2 = 1)) := by
    show hasN l b = _
    rw [hasN, Nat.testBit_eq_decide_div_mod_eq, hk]
  have hk64 : k < 64 := by omega
  have hk0 : (0 : Int) ≤ (k : Int) := by omega
  rw [hq] at hc0 hx HH
  generalize l.getD q 0 = x at hc0 hx HH
  have hbit : bits .and .u64 ((x : Int) / 2 ^ k) 1 = ((x / 2 ^ k % 2 : Nat) : Int) := by
    have h1 : x / 2 ^ k ≤ x := Nat.div_le_self _ _
    have := u64_and_nat (x / 2 ^ k) 1 (by omega) (by omega)
    rw [Nat.and_one_is_mod, show ((x / 2 ^ k : Nat) : Int) = (x : Int) / 2 ^ k from by simp] at this
    exact this
  rw [HH.out]
  generalize x / 2 ^ k % 2 = y at hbit ⊢
  generalize l.getD 0 0 = e0 at hc0 ⊢
  generalize l.getD 1 0 = e1 at hc0 ⊢
  generalize l.getD 2 0 = e2 at hc0 ⊢
  generalize l.getD 3 0 = e3 at hc0 ⊢
  clear HH hq hk
  go_enter Tryd.func29, Tryd.ntmps29
  go_wp2
  go_ret
  refine ⟨?_, (by repeat (first | exact Below.refl _ _ | assumption | refine Below.drew ?_ | refine below_drewN ?_ _ | refine Below.alloc ?_ (by first | omega | (simp; omega) | simp) _ | refine Below.setCell ?_ (by first | omega | (simp; omega) | simp) _))⟩
  show Ending.returned (.bool ((y : Int) == 1)) = _
  rw [show ((y : Int) == 1) = decide (y = 1) from by rw [Bool.eq_iff_iff]; simp; omega]

end Go.Proofs.YtkmcnekjimobhaaDoor
namespace Go.Proofs.YtkmcnekjimobhaaDoor

/-- is a byte in a set? -/
def hasE (a b c d : Int) (x : Nat) : Bool := hasN [a.toNat, b.toNat, c.toNat, d.toNat] x
/-- does a text stand at a place? -/
def litAt (s : List UInt8) (at_ : Nat) (t : List UInt8) : Bool := t.isPrefixOf (s.drop at_)

/-- what is to be done: an expression, one of one kid, a sequence's kids, alternatives, again and again -/
inductive Job where
  | ex (e : Ex)
  | kid (k : Int) (e : Ex)
  | seq (es : List Ex)
  | alt (es : List Ex)
  | rep (e : Ex)
/-- what comes of it at a place: none, it did not come to an end so soon; some none, it fails; some (some to), it takes all till there -/
def evJ (g : List Rl) (s : List UInt8) : Nat → Job → Nat → Option (Option Nat)
  | 0, _, _ => none
  | n + 1, .ex (.mk k a b c d t ks), p =>
    if k = 1 then some (some p)
    else if k = 2 then some (if p < s.length ∧ hasE a b c d (bt s p) = true then some (p + 1) else none)
    else if k = 3 then some (if litAt s p t.data.toList = true then some (p + t.size) else none)
    else if k = 4 then (match g[(fnd g t.data.toList).toNat]? with
      | some r => evJ g s n (.ex r.2) p
      | none => some none)
    else if k = 5 then evJ g s n (.seq ks) p
    else if k = 6 then evJ g s n (.alt ks) p
    else (match ks with
      | [] => some none
      | e :: _ => evJ g s n (.kid k e) p)
  | n + 1, .kid k e, p =>
    if k = 7 then evJ g s n (.rep e) p
    else match evJ g s n (.ex e) p with
      | none => none
      | some none => some (if k = 8 ∨ k = 10 then none else some p)
      | some (some to) => if k = 8 then evJ g s n (.rep e) to else if k = 9 then some (some to) else if k = 10 then some (some p) else some none
  | _ + 1, .seq [], p => some (some p)
  | n + 1, .seq (e :: es), p => match evJ g s n (.ex e) p with
    | none => none
    | some none => some none
    | some (some to) => evJ g s n (.seq es) to
  | _ + 1, .alt [], _ => some none
  | n + 1, .alt (e :: es), p => match evJ g s n (.ex e) p with
    | none => none
    | some none => evJ g s n (.alt es) p
    | some (some to) => some (some to)
  | n + 1, .rep e, p => match evJ g s n (.ex e) p with
    | none => none
    | some none => some (some p)
    | some (some to) => evJ g s n (.rep e) to
def ev (g : List Rl) (s : List UInt8) (n : Nat) (e : Ex) (p : Nat) : Option (Option Nat) := evJ g s n (.ex e) p
def evK (g : List Rl) (s : List UInt8) (n : Nat) (k : Int) (e : Ex) (p : Nat) : Option (Option Nat) := evJ g s n (.kid k e) p
def evS (g : List Rl) (s : List UInt8) (n : Nat) (es : List Ex) (p : Nat) : Option (Option Nat) := evJ g s n (.seq es) p
def evA (g : List Rl) (s : List UInt8) (n : Nat) (es : List Ex) (p : Nat) : Option (Option Nat) := evJ g s n (.alt es) p
def evR (g : List Rl) (s : List UInt8) (n : Nat) (e : Ex) (p : Nat) : Option (Option Nat) := evJ g s n (.rep e) p
theorem ev_s (g : List Rl) (s : List UInt8) (n : Nat) (k a b c d : Int) (t : ByteArray) (ks : List Ex) (p : Nat) : ev g s (n + 1) (.mk k a b c d t ks) p =
    if k = 1 then some (some p)
    else if k = 2 then some (if p < s.length ∧ hasE a b c d (bt s p) = true then some (p + 1) else none)
    else if k = 3 then some (if litAt s p t.data.toList = true then some (p + t.size) else none)
    else if k = 4 then (match g[(fnd g t.data.toList).toNat]? with
      | some r => ev g s n r.2 p
      | none => some none)
    else if k = 5 then evS g s n ks p
    else if k = 6 then evA g s n ks p
    else (match ks with
      | [] => some none
      | e :: _ => evK g s n k e p) := rfl
theorem evK_s (g : List Rl) (s : List UInt8) (n : Nat) (k : Int) (e : Ex) (p : Nat) : evK g s (n + 1) k e p =
    if k = 7 then evR g s n e p
    else match ev g s n e p with
      | none => none
      | some none => some (if k = 8 ∨ k = 10 then none else some p)
      | some (some to) => if k = 8 then evR g s n e to else if k = 9 then some (some to) else if k = 10 then some (some p) else some none := rfl
theorem evS_nil (g : List Rl) (s : List UInt8) (n p : Nat) : evS g s (n + 1) [] p = some (some p) := rfl
theorem evS_cons (g : List Rl) (s : List UInt8) (n : Nat) (e : Ex) (es : List Ex) (p : Nat) : evS g s (n + 1) (e :: es) p = match ev g s n e p with
    | none => none
    | some none => some none
    | some (some to) => evS g s n es to := rfl
theorem evA_nil (g : List Rl) (s : List UInt8) (n p : Nat) : evA g s (n + 1) [] p = some none := rfl
theorem evA_cons (g : List Rl) (s : List UInt8) (n : Nat) (e : Ex) (es : List Ex) (p : Nat) : evA g s (n + 1) (e :: es) p = match ev g s n e p with
    | none => none
    | some none => evA g s n es p
    | some (some to) => some (some to) := rfl
theorem evR_s (g : List Rl) (s : List UInt8) (n : Nat) (e : Ex) (p : Nat) : evR g s (n + 1) e p = match ev g s n e p with
    | none => none
    | some none => some (some p)
    | some (some to) => evR g s n e to := rfl

theorem ev_mono (g : List Rl) (s : List UInt8) : ∀ n, (∀ e p o, ev g s n e p = some o → ev g s (n + 1) e p = some o) ∧ (∀ k e p o, evK g s n k e p = some o → evK g s (n + 1) k e p = some o) ∧
    (∀ es p o, evS g s n es p = some o → evS g s (n + 1) es p = some o) ∧ (∀ es p o, evA g s n es p = some o → evA g s (n + 1) es p = some o) ∧ (∀ e p o, evR g s n e p = some o → evR g s (n + 1) e p = some o) := by
  intro n
  induction n with
  | zero => exact ⟨fun e p o h => (by cases h), fun k e p o h => (by cases h), fun es p o h => (by cases h), fun es p o h => (by cases h), fun e p o h => (by cases h)⟩
  | succ n ih =>
    obtain ⟨h1, h2, h3, h4, h5⟩ := ih
    refine ⟨?_, ?_, ?_, ?_, ?_⟩
    · rintro ⟨k, a, b, c, d, t, ks⟩ p o h
      rw [ev_s] at h
      rw [ev_s]
      by_cases k1 : k = 1
      · rw [if_pos k1] at h ⊢; exact h
      rw [if_neg k1] at h ⊢
      by_cases k2 : k = 2
      · rw [if_pos k2] at h ⊢; exact h
      rw [if_neg k2] at h ⊢
      by_cases k3 : k = 3
      · rw [if_pos k3] at h ⊢; exact h
      rw [if_neg k3] at h ⊢
      by_cases k4 : k = 4
      · rw [if_pos k4] at h ⊢
        cases hg : g[(fnd g t.data.toList).toNat]? with
        | none => rw [hg] at h; exact h
        | some r => rw [hg] at h; exact h1 _ _ _ h
      rw [if_neg k4] at h ⊢
      by_cases k5 : k = 5
      · rw [if_pos k5] at h ⊢; exact h3 _ _ _ h
      rw [if_neg k5] at h ⊢
      by_cases k6 : k = 6
      · rw [if_pos k6] at h ⊢; exact h4 _ _ _ h
      rw [if_neg k6] at h ⊢
      cases ks with
      | nil => exact h
      | cons e es => exact h2 _ _ _ _ h
    · intro k e p o h
      rw [evK_s] at h
      rw [evK_s]
      by_cases k7 : k = 7
      · rw [if_pos k7] at h ⊢; exact h5 _ _ _ h
      rw [if_neg k7] at h ⊢
      cases he : ev g s n e p with
      | none => rw [he] at h; cases h
      | some u =>
        rw [he] at h
        rw [h1 _ _ _ he]
        cases u with
        | none => exact h
        | some to =>
          simp only at h ⊢
          by_cases k8 : k = 8
          · rw [if_pos k8] at h ⊢; exact h5 _ _ _ h
          · rw [if_neg k8] at h ⊢; exact h
    · intro es p o h
      cases es with
      | nil => rw [evS_nil] at h; rw [evS_nil]; exact h
      | cons e es =>
        rw [evS_cons] at h
        rw [evS_cons]
        cases he : ev g s n e p with
        | none => rw [he] at h; cases h
        | some u =>
          rw [he] at h
          rw [h1 _ _ _ he]
          cases u with
          | none => exact h
          | some to => exact h3 _ _ _ h
    · intro es p o h
      cases es with
      | nil => rw [evA_nil] at h; rw [evA_nil]; exact h
      | cons e es =>
        rw [evA_cons] at h
        rw [evA_cons]
        cases he : ev g s n e p with
        | none => rw [he] at h; cases h
        | some u =>
          rw [he] at h
          rw [h1 _ _ _ he]
          cases u with
          | none => exact h4 _ _ _ h
          | some to => exact h
    · intro e p o h
      rw [evR_s] at h
      rw [evR_s]
      cases he : ev g s n e p with
      | none => rw [he] at h; cases h
      | some u =>
        rw [he] at h
        rw [h1 _ _ _ he]
        cases u with
        | none => exact h
        | some to => exact h5 _ _ _ h
theorem ev_le {g : List Rl} {s : List UInt8} {n m : Nat} {e : Ex} {p : Nat} {o : Option Nat} (h : ev g s n e p = some o) (hm : n ≤ m) : ev g s m e p = some o := by
  induction hm with
  | refl => exact h
  | step _ ih => exact (ev_mono g s _).1 _ _ _ ih
theorem evS_le {g : List Rl} {s : List UInt8} {n m : Nat} {e : List Ex} {p : Nat} {o : Option Nat} (h : evS g s n e p = some o) (hm : n ≤ m) : evS g s m e p = some o := by
  induction hm with
  | refl => exact h
  | step _ ih => exact (ev_mono g s _).2.2.1 _ _ _ ih
theorem evA_le {g : List Rl} {s : List UInt8} {n m : Nat} {e : List Ex} {p : Nat} {o : Option Nat} (h : evA g s n e p = some o) (hm : n ≤ m) : evA g s m e p = some o := by
  induction hm with
  | refl => exact h
  | step _ ih => exact (ev_mono g s _).2.2.2.1 _ _ _ ih
theorem evR_le {g : List Rl} {s : List UInt8} {n m : Nat} {e : Ex} {p : Nat} {o : Option Nat} (h : evR g s n e p = some o) (hm : n ≤ m) : evR g s m e p = some o := by
  induction hm with
  | refl => exact h
  | step _ ih => exact (ev_mono g s _).2.2.2.2 _ _ _ ih
theorem ev_eq {g : List Rl} {s : List UInt8} {n m : Nat} {e : Ex} {p : Nat} {o o' : Option Nat} (h : ev g s n e p = some o) (h' : ev g s m e p = some o') : o = o' := by
  have h1 := ev_le h (Nat.le_max_left n m)
  have h2 := ev_le h' (Nat.le_max_right n m)
  rw [h1] at h2
  injection h2
end Go.Proofs.YtkmcnekjimobhaaDoor
namespace Go.Proofs.YtkmcnekjimobhaaDoor
open Go.ChangeShapes Go.WideShapes Go.ChangeAt Go.RowKit

theorem I64_of_wf {z : Int} (h : (Lit.int .i64 z).wf = true) : I64 z := by
  simpa [I64, Lit.wf, IntKind.min, IntKind.max, IntKind.signed, IntKind.bits] using h

end Go.Proofs.YtkmcnekjimobhaaDoor
namespace Go.Proofs.YtkmcnekjimobhaaDoor
open Go.ChangeShapes Go.WideShapes Go.ChangeAt Go.RowKit

/-- a tree: rule, from, to, kids -/
inductive Tr where
  | mk (r f u : Int) (ks : List Tr)

theorem Tr.ind {P : Tr → Prop} (h : ∀ r f u ks, (∀ t ∈ ks, P t) → P (.mk r f u ks)) (t : Tr) : P t := by
  refine Tr.rec (motive_1 := P) (motive_2 := fun ks => ∀ e ∈ ks, P e) ?_ ?_ ?_ t
  · exact fun r f u ks ih => h r f u ks ih
  · exact fun e he => by cases he
  · intro e es h1 h2 e' he
    rcases List.mem_cons.1 he with rfl | he
    · exact h1
    · exact h2 _ he
mutual
def trNodes : Tr → Nat
  | .mk _ _ _ ks => 1 + trAll ks
def trAll : List Tr → Nat
  | [] => 0
  | t :: ts => trNodes t + trAll ts
end
theorem trAll_len : ∀ ks : List Tr, ks.length ≤ trAll ks
  | [] => by simp
  | .mk r f u ks' :: ks => by
    have := trAll_len ks
    simp only [trAll, trNodes, List.length_cons]
    omega
theorem trAll_mem : ∀ (ks : List Tr) (t : Tr), t ∈ ks → trNodes t ≤ trAll ks
  | [], t, h => by cases h
  | t' :: ks, t, h => by
    rw [trAll]
    rcases List.mem_cons.1 h with rfl | h
    · omega
    · have := trAll_mem ks t h
      omega

/-- the cells of a tree, and that all below it can be read in blocks of S -/
inductive TrIs (w : World) (S : Nat → Prop) : Tr → List Value → Prop
  | mk (r f u : Int) (ks : List Tr) (A : Option Addr) (cp : Nat) (row : Nat → List Value) :
      ks.length ≤ cp → cp ≤ maxLen → (0 < ks.length → ∃ ad : Addr, A = some ad ∧ S ad.block) →
      (∀ i t, ks[i]? = some t → TrIs w S t (row i)) →
      (∀ i t ad, ks[i]? = some t → A = some ad → ∀ j u, (row i)[j]? = some u → w.cell? ((ad.add (i * 4)).add j) = some u) →
      TrIs w S (.mk r f u ks) [.int .i64 r, .int .i64 f, .int .i64 u, .slice A ks.length cp]

theorem TrIs.keep {w w' : World} {S S' : Nat → Prop} {t : Tr} {cs : List Value} (h : TrIs w S t cs) (hS : ∀ b, S b → S' b) (hk : ∀ p : Addr, S p.block → w'.cell? p = w.cell? p) : TrIs w' S' t cs := by
  induction h with
  | mk r f u ks A cp row hl hm hb hr hc ih =>
    refine .mk r f u ks A cp row hl hm (fun h0 => ?_) ih fun i t ad ht hA j v hv => ?_
    · obtain ⟨ad, e, h1⟩ := hb h0
      exact ⟨ad, e, hS _ h1⟩
    · obtain ⟨ad', e', h1⟩ := hb (by have := getElem?_lt ht; omega)
      rw [hA] at e'
      injection e' with e'
      subst e'
      rw [hk _ (by rw [add_block, add_block]; exact h1)]
      exact hc i t ad ht hA j v hv
theorem TrIs.len {w : World} {S : Nat → Prop} {t : Tr} {cs : List Value} (h : TrIs w S t cs) : cs.length = 4 := by cases h; simp
theorem TrIs.on {w w' : World} {B B' : Nat} {t : Tr} {cs : List Value} (h : TrIs w (· < B) t cs) (hb : Below B w w') (hB : B ≤ B') : TrIs w' (· < B') t cs := h.keep (fun _ h => Nat.lt_of_lt_of_le h hB) fun _ hp => hb.cell hp

theorem tr_row {α : Type} [Inhabited α] {n : Nat} {p : Nat → α → Prop} (h : ∀ i, i < n → ∃ x, p i x) : ∃ f : Nat → α, ∀ i, i < n → p i (f i) := by
  have h' : ∀ i, ∃ x, i < n → p i x := fun i => by
    by_cases hi : i < n
    · obtain ⟨x, hx⟩ := h i hi
      exact ⟨x, fun _ => hx⟩
    · exact ⟨default, fun h => absurd h hi⟩
  exact ⟨fun i => (h' i).choose, fun i hi => (h' i).choose_spec hi⟩

end Go.Proofs.YtkmcnekjimobhaaDoor
