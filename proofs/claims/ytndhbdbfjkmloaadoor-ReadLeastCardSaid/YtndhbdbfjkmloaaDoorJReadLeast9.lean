/- Expressions and grammars that a law builds: lit, ref, of, one. Rules in rows of one's own: cells, slices.Clone. A region that draws its order, walked in the order of the text: the two steps of such a walk at whatever class of worlds. A region that draws its order: operations that are quiet in a class of worlds, and behind them all a chain of others (a store at the end): one walk of the text's order serves. A quiet walk of a region that draws its order, behind a structure (so that nothing lays it open): steps told by the guard's own value. A region that draws its order: operations that are quiet in a class of worlds, then one that all of them feed (a call that turns the world), then others that are quiet behind it: one walk of the text's order serves. A region that draws its order: operations that only read (each has one value in all worlds of a class) are taken first; of the others all that may come up are looked at, one by one; operations may be late: behind them the class need not hold. Expressions that are made anew: what of memory they rest on; kids in a row while they are appended. -/
import Derived.Test.YtndhbdbfjkmloaaDoorJReadLeast2
import Derived.WalkSpells
import Derived.Maps.AppendAt
import Derived.Lib.SmallJoins
import Derived.Deep.QuietTactic
import Derived.StillTail
import Derived.Laws.OwnMore
import Derived.Deep.RegionLawGrows
import Derived.Test.YtndhbdbfjkmloaaDoorJReadLeast0
namespace Go.Proofs.YtndhbdbfjkmloaaDoor
open Go.RowKit

def refE (t : ByteArray) : Ex := .mk 4 0 0 0 0 t []
def ofN (k : Int) (ks : List Ex) : Ex := .mk k 0 0 0 0 ⟨#[]⟩ ks
theorem ExIs.grow {w w' : World} {e : Ex} {cs : List Value} (h : ExIs w w.heap.size e cs) (hb : Below w.heap.size w w') : ExIs w' w'.heap.size e cs := h.keep hb.size fun _ hp => hb.cell hp
theorem GrIs.grow {w w' : World} {g : List Rl} {A : Option Addr} {cp : Nat} {row : Nat → List Value} (h : GrIs w w.heap.size g A cp row) (hb : Below w.heap.size w w') : GrIs w' w'.heap.size g A cp row := h.keep hb.size fun _ hp => hb.cell hp
theorem refE_is (w : World) (t : ByteArray) (ht : t.size ≤ maxLen) : ExIs w w.heap.size (refE t) (exCells 4 0 0 0 0 t none 0 0) := ExIs.leaf w _ 4 0 0 0 0 t ht
theorem ex_len {w : World} {B : Nat} {e : Ex} {cs : List Value} (h : ExIs w B e cs) : cs.length = 7 := by
  cases h
  rfl
theorem cell_add (w : World) (g i : Nat) : w.cell? ((⟨g, 0, none⟩ : Addr).add i) = w.cell? ⟨g, i, none⟩ := by
  cases i with
  | zero => rfl
  | succ i => simp [Addr.add]
theorem add_at (g i j : Nat) : ((⟨g, 0, none⟩ : Addr).add i).add j = (⟨g, 0, none⟩ : Addr).add (i + j) := by
  cases i with
  | zero => cases j with
    | zero => rfl
    | succ j => simp [Addr.add]
  | succ i => cases j with
    | zero => rfl
    | succ j => simp [Addr.add]
/-- a node over a block of its kids' cells -/
theorem ex_node {W : World} {b : Nat} {T : TypeId} {es : List Ex} {rows : List (List Value)} {cs : Array Value} (hl : rows.length = es.length) (h8 : es.length ≤ 100) (hk : ∀ (i : Nat) (e : Ex) (r : List Value), es[i]? = some e → rows[i]? = some r → ExIs W W.heap.size e r) (hb : Blk W b T cs) (hcs : cs.toList = rows.flatten)
    (k : Int) (t : ByteArray) (ht : t.size ≤ maxLen) : ExIs W W.heap.size (.mk k 0 0 0 0 t es) (exCells k 0 0 0 0 t (some ⟨b, 0, none⟩) es.length es.length) := by
  refine .mk k 0 0 0 0 t es (some ⟨b, 0, none⟩) es.length (fun i => rows.getD i []) ht (Nat.le_refl _) (by unfold maxLen; omega) (fun h => by cases h) (fun _ => ⟨_, rfl, hb.lt⟩) (fun i e he => ?_) (fun i e ad he hA j u hu => ?_)
  · have hi : i < rows.length := by rw [hl]; exact getElem?_lt he
    rw [List.getD_eq_getElem?_getD, List.getElem?_eq_getElem hi, Option.getD_some]
    exact hk i e _ he (List.getElem?_eq_getElem hi)
  · injection hA with hA
    subst hA
    have hi : i < rows.length := by rw [hl]; exact getElem?_lt he
    rw [List.getD_eq_getElem?_getD, List.getElem?_eq_getElem hi, Option.getD_some] at hu
    rw [add_at, cell_add, hb.cell, ← Array.getElem?_toList, hcs]
    have hlen : ∀ r ∈ rows, r.length = 7 := fun r hr => by
      obtain ⟨q, hq⟩ := List.getElem?_of_mem hr
      have hq' : q < es.length := by rw [← hl]; exact getElem?_lt hq
      exact ex_len (hk q _ r (List.getElem?_eq_getElem hq') hq)
    have flat : ∀ (rows : List (List Value)) (i : Nat) (r : List Value), (∀ r ∈ rows, r.length = 7) → rows[i]? = some r → ∀ j u, r[j]? = some u → rows.flatten[i * 7 + j]? = some u := by
      intro rows
      induction rows with
      | nil => intro i r _ h; simp at h
      | cons x rows ih =>
        intro i r h7 h j u hu
        rw [List.flatten_cons]
        have hx := h7 x (by simp)
        cases i with
        | zero =>
          simp only [List.getElem?_cons_zero, Option.some.injEq] at h
          subst h
          rw [Nat.zero_mul, Nat.zero_add, List.getElem?_append_left (getElem?_lt hu)]
          exact hu
        | succ i =>
          rw [List.getElem?_cons_succ] at h
          rw [List.getElem?_append_right (by omega), hx, show (i + 1) * 7 + j - 7 = i * 7 + j by omega]
          exact ih i r (fun r hr => h7 r (by simp [hr])) h j u hu
    exact flat rows i _ hlen (List.getElem?_eq_getElem hi) j u hu
theorem ex_one {W : World} {b : Nat} {T : TypeId} {e : Ex} {r : List Value} {cs : Array Value} (h : ExIs W W.heap.size e r) (hb : Blk W b T cs) (hcs : cs.toList = r) (k : Int) : ExIs W W.heap.size (ofN k [e]) (exCells k 0 0 0 0 ⟨#[]⟩ (some ⟨b, 0, none⟩) 1 1) :=
  ex_node (es := [e]) (rows := [r]) rfl (by simp) (fun i e' r' he hr => by
    match i, he, hr with
    | 0, he, hr => simp at he hr; subst he hr; exact h) hb (by simp [hcs]) k _ (by decide)
theorem ex_two {W : World} {b : Nat} {T : TypeId} {e f : Ex} {r q : List Value} {cs : Array Value} (h : ExIs W W.heap.size e r) (h' : ExIs W W.heap.size f q) (hb : Blk W b T cs) (hcs : cs.toList = r ++ q) (k : Int) : ExIs W W.heap.size (ofN k [e, f]) (exCells k 0 0 0 0 ⟨#[]⟩ (some ⟨b, 0, none⟩) 2 2) :=
  ex_node (es := [e, f]) (rows := [r, q]) rfl (by simp) (fun i e' r' he hr => by
    match i, he, hr with
    | 0, he, hr => simp at he hr; subst he hr; exact h
    | 1, he, hr => simp at he hr; subst he hr; exact h') hb (by simp [hcs]) k _ (by decide)
end Go.Proofs.YtndhbdbfjkmloaaDoor
namespace Go.Proofs.YtndhbdbfjkmloaaDoor
open Go.RowKit

theorem ex_one' {w : World} {B : Nat} {e : Ex} {cs : List Value} (h : ExIs w B e cs) : ∀ u ∈ cs, u.oneCell' = true := by
  obtain ⟨k, a, b, c, d, t, A, n, cp, rfl⟩ := e.parts h
  intro u hu
  simp at hu
  rcases hu with rfl | rfl | rfl | rfl | rfl | rfl | rfl <;> rfl
section
variable {w : World} {B : Nat} {g : List Rl} {A : Option Addr} {cp : Nat} {row : Nat → List Value}
end

end Go.Proofs.YtndhbdbfjkmloaaDoor
namespace Go.Proofs.YtndhbdbfjkmloaaDoor

section
variable {P : Program} {ops : Array Oper} {C : World → Prop} {Q : Act → Prop}
theorem wpQuiet_yes {o : Oper} {rest : List Oper} {a : Act} (hw : Region.wanted o (yielded ops a.tmps) = true) (v : Value) (h1 : ∀ w, C w → o.quietAt P a C w v) (h2 : wpQuiet P ops C Q rest (a.put o.dst v)) : wpQuiet P ops C Q (o :: rest) a := by
  show if Region.wanted o (yielded ops a.tmps) = true then _ else _
  rw [if_pos hw]
  exact ⟨v, h1, h2⟩
theorem wpQuiet_no {o : Oper} {rest : List Oper} {a : Act} (hw : Region.wanted o (yielded ops a.tmps) = false) (h2 : wpQuiet P ops C Q rest (a.put o.dst undef)) : wpQuiet P ops C Q (o :: rest) a := by
  show if Region.wanted o (yielded ops a.tmps) = true then _ else _
  rw [if_neg (by rw [hw]; decide)]
  exact h2
end
end Go.Proofs.YtndhbdbfjkmloaaDoor
namespace Go.Proofs.YtndhbdbfjkmloaaDoor

section
variable {P : Program} {ops : Array Oper} {md : Region.Mode} {C : World → Prop}

end
end Go.Proofs.YtndhbdbfjkmloaaDoor
namespace Go.Proofs.YtndhbdbfjkmloaaDoor

/-- a quiet walk that is still to be done -/
structure QW (P : Program) (ops : Array Oper) (C : World → Prop) (Q : Act → Prop) (l : List Oper) (a : Act) : Prop where
  out : wpQuiet P ops C Q l a
section
variable {P : Program} {ops : Array Oper} {C : World → Prop} {Q : Act → Prop} {o : Oper} {rest : List Oper} {a : Act}
theorem QW.free (hg : o.guard = none) (v : Value) (h1 : ∀ w, C w → o.quietAt P a C w v) (h2 : QW P ops C Q rest (a.put o.dst v)) : QW P ops C Q (o :: rest) a :=
  ⟨wpQuiet_yes (by simp [Region.wanted, hg]) v h1 h2.out⟩
theorem QW.take {j : Nat} {want : Bool} (hg : o.guard = some (j, want)) (hd : ∃ d, (ops[j]?).bind (·.dst) = some d ∧ a.tmps[d]? = some (.bool want)) (v : Value) (h1 : ∀ w, C w → o.quietAt P a C w v) (h2 : QW P ops C Q rest (a.put o.dst v)) : QW P ops C Q (o :: rest) a := by
  obtain ⟨d, hd, hv⟩ := hd
  exact ⟨wpQuiet_yes (by simp [Region.wanted, hg, yielded, hd, hv]) v h1 h2.out⟩
theorem QW.skip {j : Nat} {want : Bool} (hg : o.guard = some (j, want)) (hd : ∃ d u, (ops[j]?).bind (·.dst) = some d ∧ a.tmps[d]? = some u ∧ (u = .bool (!want) ∨ u = undef)) (h2 : QW P ops C Q rest (a.put o.dst undef)) : QW P ops C Q (o :: rest) a := by
  obtain ⟨d, u, hd, hv, hb⟩ := hd
  refine ⟨wpQuiet_no ?_ h2.out⟩
  simp only [Region.wanted, hg, yielded, hd, hv, Option.bind_some]
  rcases hb with rfl | rfl
  · cases want <;> rfl
  · cases want <;> rfl
theorem QW.nil (h : Q a) : QW P ops C Q [] a := ⟨wpQuiet_nil h⟩
/-- the region only reads, and calls what keeps C -/
theorem wp_region_q {id : Nat} {Q : Exit → Act → World → Prop} {w : World} {l : List Oper} (C : World → Prop) (hm : P.follows .mixedOrders = true) (hB : Region.lexB .any l.toArray = true) (hC : C w.drew)
    (h : QW P l.toArray C (fun a' => ∀ w', C w' → Q .normal a' w') l a) : (Code.region id l.toArray true).wp P Q a w :=
  wp_region_quiet (C := C) hm hB hC (by simpa using h.out)
end
end Go.Proofs.YtndhbdbfjkmloaaDoor
namespace Go.Proofs.YtndhbdbfjkmloaaDoor

section
variable {P : Program} {ops : Array Oper} {md : Region.Mode} {C : World → Prop}
/-- the one in the midst: a call -/
def MidCall (P : Program) (o : Oper) (a : Act) (w : World) (K : Act → World → Prop) : Prop := match (execOp a.eval o).run P w with
  | .ok (.enter f args) w' => w' = w ∧ Calls P f args w (fun e w'' => ∃ v, e = .returned v ∧ K (a.put o.dst v) w'')
  | _ => False
theorem MidCall.wp {o : Oper} {a : Act} {w : World} {K : Act → World → Prop} {Q : Exit → Act → World → Prop} (h : MidCall P o a w K) : o.wp P a w K Q := by
  unfold MidCall at h
  unfold Oper.wp
  generalize (execOp a.eval o).run P w = r at *
  cases r with
  | ok n w' =>
    cases n <;> simp only at h <;> simp only [Oper.upon]
    case enter f args =>
      obtain ⟨e1, hc⟩ := h
      rw [e1]
      exact hc.mono fun e w'' ⟨v, he, hw''⟩ => by subst he; exact hw''
  | halt x w' => simp only at h

end
end Go.Proofs.YtndhbdbfjkmloaaDoor
namespace Go.Proofs.YtndhbdbfjkmloaaDoor

section
variable {P : Program} {ops : Array Oper} {md : Region.Mode} {C : World → Prop} {late : Nat → Bool} {Q : Exit → Act → World → Prop}
/-- a step that does not fall out of the way -/
def stepT (P : Program) (o : Oper) (a : Act) (w : World) (K : Act → World → Prop) : Prop := match (execOp a.eval o).run P w with
  | .ok (.value u) w' => K (a.put o.dst u) w'
  | .ok .skip w' => K (a.put o.dst undef) w'
  | .ok (.enter f args) w' => Calls P f args w' (fun e w'' => ∃ v, e = .returned v ∧ K (a.put o.dst v) w'')
  | _ => False
theorem stepT.wp {o : Oper} {a : Act} {w : World} {K : Act → World → Prop} (h : stepT P o a w K) : o.wp P a w K Q := by
  unfold stepT at h
  unfold Oper.wp
  generalize (execOp a.eval o).run P w = r at *
  cases r with
  | ok n w' =>
    cases n <;> simp only at h <;> simp only [Oper.upon]
    case value u => exact h
    case skip => exact h
    case enter f args => exact h.mono fun e w'' ⟨v, he, hw''⟩ => by subst he; exact hw''
  | halt x w' => simp only at h
theorem stepT.mono {o : Oper} {a : Act} {w : World} {K K' : Act → World → Prop} (hK : ∀ a w, K a w → K' a w) (h : stepT P o a w K) : stepT P o a w K' := by
  unfold stepT at *
  generalize (execOp a.eval o).run P w = r at *
  cases r with
  | ok n w' =>
    cases n <;> simp only at h ⊢
    case value u => exact hK _ _ h
    case skip => exact hK _ _ h
    case enter f args => exact h.mono fun e w'' ⟨v, he, hw''⟩ => ⟨v, he, hK _ _ hw''⟩
  | halt x w' => simp only at h
/-- a read: this value, in the world that it got -/
def readW (P : Program) (o : Oper) (a : Act) (w : World) (v : Value) : Prop := match (execOp a.eval o).run P w with
  | .ok (.value u) w' => w' = w ∧ u = v
  | .ok .skip w' => w' = w ∧ v = undef
  | _ => False
def ReadC (P : Program) (ops : Array Oper) (C : World → Prop) (o : Oper) (v : Value) (a : Act) : Prop :=
  (Region.wanted o (yielded ops a.tmps) = true ∧ ∀ w, C w → readW P o a w v) ∨ (Region.wanted o (yielded ops a.tmps) = false ∧ v = undef)
def goesI (P : Program) (ops : Array Oper) (i : Nat) (K : Act → World → Prop) (a : Act) (w : World) : Prop := match ops[i]? with
  | none => K a w
  | some o => if Region.wanted o (yielded ops a.tmps) then stepT P o a w K else K (a.put o.dst undef) w
theorem goesI.mono {i : Nat} {a : Act} {w : World} {K K' : Act → World → Prop} (hK : ∀ a w, K a w → K' a w) (h : goesI P ops i K a w) : goesI P ops i K' a w := by
  unfold goesI at *
  split
  · rename_i ho; simp only [ho] at h; exact hK _ _ h
  · rename_i o ho
    simp only [ho] at h
    split
    · rename_i hw; simp only [hw, if_true] at h; exact stepT.mono hK h
    · rename_i hw; simp only [hw] at h; exact hK _ _ h
/-- whatever order is picked from here on -/
def wpAnyL2 (P : Program) (md : Region.Mode) (ops : Array Oper) (C : World → Prop) (late : Nat → Bool) (Q : Exit → Act → World → Prop) : Nat → Array Bool → Act → World → Prop
  | 0, listed, a, w => Region.ready md ops listed = [] ∧ Q .normal a w
  | f + 1, listed, a, w => (Region.ready md ops listed = [] → Q .normal a w) ∧ ∀ i ∈ Region.ready md ops listed, goesI P ops i (fun a' w' => (late i = false → C w') ∧ wpAnyL2 P md ops C late Q f (listed.setIfInBounds i true) a' w') a w
theorem wpAny_of_L : ∀ (f : Nat) (listed : Array Bool) (a : Act) (w : World), wpAnyL2 P md ops C late Q f listed a w → wpAny P md ops Q f listed a w
  | 0, _, _, _, h => h
  | f + 1, listed, a, w, h => ⟨h.1, fun i hi => by
      have h1 := h.2 i hi
      unfold goesI at h1
      unfold wpOp
      split
      · rename_i ho; simp only [ho] at h1; exact wpAny_of_L f _ _ _ h1.2
      · rename_i o ho
        simp only [ho] at h1
        split
        · rename_i hw
          simp only [hw, if_true] at h1
          exact .inl (Oper.wp_mono (fun a' w' h2 => wpAny_of_L f _ _ _ h2.2) (stepT.wp h1))
        · rename_i hw
          simp only [hw] at h1
          exact wpAny_of_L f _ _ _ h1.2⟩
theorem ReadC.of_same {o : Oper} {v : Value} {a a' : Act} (hy : ReadC P ops C o v a) (he : execOp a'.eval o = execOp a.eval o)
    (hw : Region.wanted o (yielded ops a'.tmps) = Region.wanted o (yielded ops a.tmps)) : ReadC P ops C o v a' := by
  unfold ReadC readW at *
  rw [he, hw]
  exact hy
theorem ReadC.goes {i : Nat} {o : Oper} {v : Value} {a : Act} {w : World} (hi : ops[i]? = some o) (hC : C w) (hy : ReadC P ops C o v a) {K : Act → World → Prop} (h : K (a.put o.dst v) w) : goesI P ops i K a w := by
  unfold goesI
  simp only [hi]
  rcases hy with ⟨hw, hv⟩ | ⟨hw, rfl⟩
  · simp only [hw, if_true]
    have h1 := hv w hC
    unfold readW at h1
    unfold stepT
    generalize (execOp a.eval o).run P w = r at *
    cases r with
    | ok n w' =>
      cases n <;> simp only at h1 ⊢
      case value u => obtain ⟨rfl, rfl⟩ := h1; exact h
      case skip => obtain ⟨rfl, rfl⟩ := h1; exact h
    | halt x w' => simp only at h1
  · simp only [hw, Bool.false_eq_true, if_false]; exact h
/-- one operation apart from a read: it makes no difference whether the read's value is there already -/
theorem goesI_put {j : Nat} {oi oj : Oper} {v : Value} (hj : ops[j]? = some oj) (hap : oi.apart ops oj = true)
    (hsi : ∀ cs b, oi.op ≠ .select cs b) (hsj : ∀ cs b, oj.op ≠ .select cs b) {K : Act → World → Prop} {a : Act} {w : World}
    (hy : ReadC P ops C oi v a) (h : goesI P ops j K (a.put oi.dst v) w) :
    goesI P ops j (fun a' w' => ReadC P ops C oi v a' ∧ K (a'.put oi.dst v) w') a w := by
  obtain ⟨h1, h2, h3⟩ := Oper.apart_spec hap
  have keep : ∀ u, ReadC P ops C oi v (a.put oj.dst u) := fun u =>
    hy.of_same (execOp_put oi hsi a oj.dst u h3) (wanted_put oi a oj.dst u h3)
  have hcm : ∀ u, (a.put oi.dst v).put oj.dst u = (a.put oj.dst u).put oi.dst v := fun u => by rw [← Act.put_comm a v u h2]
  unfold goesI at *
  simp only [hj] at *
  rw [wanted_put oj a oi.dst v h1] at h
  split
  · rename_i hw
    simp only [hw, if_true] at h
    unfold stepT at *
    rw [execOp_put oj hsj a oi.dst v h1] at h
    generalize (execOp a.eval oj).run P w = r at *
    cases r with
    | ok n w' =>
      cases n <;> simp only at h ⊢
      case value u => exact ⟨keep u, by rw [← hcm u]; exact h⟩
      case skip => exact ⟨keep _, by rw [← hcm undef]; exact h⟩
      case enter f args => exact h.mono fun e w'' ⟨u, he, hw''⟩ => ⟨u, he, keep u, by rw [← hcm u]; exact hw''⟩
    | halt x w' => simp only at h
  · rename_i hw
    simp only [hw] at h
    exact ⟨keep _, by rw [← hcm undef]; exact h⟩
theorem firstL {i : Nat} {oi : Oper} {v : Value} (hlate : ∀ j, late j = true → ∀ listed : Array Bool, listed.getD i true = false → j ∉ Region.ready md ops listed) (hi : ops[i]? = some oi) (hsel : ∀ (j : Nat) (o : Oper) cs b, ops[j]? = some o → o.op ≠ .select cs b) :
    ∀ (fuel : Nat) (listed : Array Bool) (a : Act) (w : World), C w →
      (∀ j oj, ops[j]? = some oj → j ≠ i → listed.getD j true = false → (∀ e ∈ oj.after, Region.binds md e = true → e.on ≠ i) → oi.apart ops oj = true) →
      i ∈ Region.ready md ops listed → ReadC P ops C oi v a →
      wpAnyL2 P md ops C late Q fuel (listed.setIfInBounds i true) (a.put oi.dst v) w → wpAnyL2 P md ops C late Q (fuel + 1) listed a w := by
  intro fuel
  induction fuel with
  | zero =>
    intro listed a w hC _ hr hy H
    refine ⟨fun h => (by rw [h] at hr; cases hr), fun j hj => ?_⟩
    by_cases hji : j = i
    · subst hji; exact hy.goes hi hC ⟨fun _ => hC, H⟩
    · have := ready_mono hj hji
      rw [H.1] at this
      cases this
  | succ fuel ih =>
    intro listed a w hC hfree hr hy H
    refine ⟨fun h => (by rw [h] at hr; cases hr), fun j hj => ?_⟩
    by_cases hji : j = i
    · subst hji; exact hy.goes hi hC ⟨fun _ => hC, H⟩
    · have h1 := H.2 j (ready_mono hj hji)
      obtain ⟨hjun, oj, hoj, hall⟩ := mem_ready.1 hj
      have hnot : ∀ e ∈ oj.after, Region.binds md e = true → e.on ≠ i := fun e he hb heq => by
        have h1 := hall e he hb
        have h0 := (mem_ready.1 hr).1
        rw [heq] at h1
        rcases Nat.lt_or_ge i listed.size with h' | h'
        · simp [h'] at h0 h1; rw [h0] at h1; cases h1
        · simp [Array.getElem?_eq_none h'] at h1
      have h2 := goesI_put hoj (hfree j oj hoj hji hjun hnot) (fun cs b => hsel i oi cs b hi) (fun cs b => hsel j oj cs b hoj) hy h1
      have hfree' : ∀ k ok, ops[k]? = some ok → k ≠ i → (listed.setIfInBounds j true).getD k true = false →
          (∀ e ∈ ok.after, Region.binds md e = true → e.on ≠ i) → oi.apart ops ok = true := fun k ok hk hki hun hno => by
        refine hfree k ok hk hki ?_ hno
        by_cases hjk : j = k
        · subst hjk; exact hjun
        · rw [getD_set_ne true hjk] at hun; exact hun
      have hjl : late j = false := by
        cases hl : late j with
        | false => rfl
        | true => exact absurd hj (hlate j hl listed (mem_ready.1 hr).1)
      refine goesI.mono (fun a' w' h3 => ⟨h3.2.1, ih (listed.setIfInBounds j true) a' w' (h3.2.1 hjl) hfree' (ready_mono hr (Ne.symm hji)) h3.1 ?_⟩) h2
      rw [Array.setIfInBounds_comm _ _ hji]
      exact h3.2.2

/-- the same for what does not look at the world -/
theorem firstLp {i : Nat} {oi : Oper} {v : Value} (hl : late i = true) (hi : ops[i]? = some oi) (hsel : ∀ (j : Nat) (o : Oper) cs b, ops[j]? = some o → o.op ≠ .select cs b) :
    ∀ (fuel : Nat) (listed : Array Bool) (a : Act) (w : World),
      (∀ j oj, ops[j]? = some oj → j ≠ i → listed.getD j true = false → (∀ e ∈ oj.after, Region.binds md e = true → e.on ≠ i) → oi.apart ops oj = true) →
      i ∈ Region.ready md ops listed → ReadC P ops (fun _ => True) oi v a →
      wpAnyL2 P md ops C late Q fuel (listed.setIfInBounds i true) (a.put oi.dst v) w → wpAnyL2 P md ops C late Q (fuel + 1) listed a w := by
  intro fuel
  induction fuel with
  | zero =>
    intro listed a w _ hr hy H
    refine ⟨fun h => (by rw [h] at hr; cases hr), fun j hj => ?_⟩
    by_cases hji : j = i
    · subst hji; exact hy.goes hi trivial ⟨fun h => (by rw [hl] at h; cases h), H⟩
    · have := ready_mono hj hji
      rw [H.1] at this
      cases this
  | succ fuel ih =>
    intro listed a w hfree hr hy H
    refine ⟨fun h => (by rw [h] at hr; cases hr), fun j hj => ?_⟩
    by_cases hji : j = i
    · subst hji; exact hy.goes hi trivial ⟨fun h => (by rw [hl] at h; cases h), H⟩
    · have h1 := H.2 j (ready_mono hj hji)
      obtain ⟨hjun, oj, hoj, hall⟩ := mem_ready.1 hj
      have hnot : ∀ e ∈ oj.after, Region.binds md e = true → e.on ≠ i := fun e he hb heq => by
        have h1 := hall e he hb
        have h0 := (mem_ready.1 hr).1
        rw [heq] at h1
        rcases Nat.lt_or_ge i listed.size with h' | h'
        · simp [h'] at h0 h1; rw [h0] at h1; cases h1
        · simp [Array.getElem?_eq_none h'] at h1
      have h2 := goesI_put hoj (hfree j oj hoj hji hjun hnot) (fun cs b => hsel i oi cs b hi) (fun cs b => hsel j oj cs b hoj) hy h1
      have hfree' : ∀ k ok, ops[k]? = some ok → k ≠ i → (listed.setIfInBounds j true).getD k true = false →
          (∀ e ∈ ok.after, Region.binds md e = true → e.on ≠ i) → oi.apart ops ok = true := fun k ok hk hki hun hno => by
        refine hfree k ok hk hki ?_ hno
        by_cases hjk : j = k
        · subst hjk; exact hjun
        · rw [getD_set_ne true hjk] at hun; exact hun
      refine goesI.mono (fun a' w' h3 => ⟨h3.2.1, ih (listed.setIfInBounds j true) a' w' hfree' (ready_mono hr (Ne.symm hji)) h3.1 ?_⟩) h2
      rw [Array.setIfInBounds_comm _ _ hji]
      exact h3.2.2

/-- what is late waits for a read -/
def lateB (md : Region.Mode) (ops : Array Oper) (late : Nat → Bool) (i : Nat) : Bool := (List.range ops.size).all fun j => !late j || Region.waitsFor md ops j i
theorem late_spec {i : Nat} (h : lateB md ops late i = true) : ∀ j, late j = true → ∀ listed : Array Bool, listed.getD i true = false → j ∉ Region.ready md ops listed := by
  intro j hj listed hun hr
  obtain ⟨_, oj, hoj, hall⟩ := mem_ready.1 hr
  unfold lateB at h
  have h1 := List.all_eq_true.1 h j (List.mem_range.2 (Array.getElem?_eq_some_iff.1 hoj).1)
  rw [hj] at h1
  simp only [Bool.not_true, Bool.false_or] at h1
  obtain ⟨o', ho', e, he, hb, hon⟩ := Region.waitsFor_spec h1
  have : o' = oj := Option.some.inj (ho'.symm.trans hoj)
  subst this
  have h2 := hall e he hb
  rw [hon, getD_both hun] at h2
  cases h2
/-- a read is taken first -/
theorem L.rd {f i : Nat} {o : Oper} {listed : Array Bool} {a : Act} {w : World} (hi : ops.toList[i]? = some o) (hb : (Region.noSelect ops && (Region.ready md ops listed).contains i && Region.free md ops listed i && lateB md ops late i) = true) (hC : C w) (hg : o.guard = none) {v : Value} (hy : ∀ W, C W → readW P o a W v)
    (h : wpAnyL2 P md ops C late Q f (listed.setIfInBounds i true) (a.put o.dst v) w) : wpAnyL2 P md ops C late Q (f + 1) listed a w := by
  rw [Array.getElem?_toList] at hi
  simp only [Bool.and_eq_true] at hb
  exact firstL (late_spec hb.2) hi (Region.noSelect_spec hb.1.1.1) f listed a w hC (Region.free_spec hi hb.1.2) (by simpa using hb.1.1.2) (.inl ⟨by simp [Region.wanted, hg], hy⟩) h
/-- a read behind what is late: it does not look at the world -/
theorem L.rdl {f i : Nat} {o : Oper} {listed : Array Bool} {a : Act} {w : World} (hi : ops.toList[i]? = some o) (hb : (Region.noSelect ops && (Region.ready md ops listed).contains i && Region.free md ops listed i && late i) = true) (hg : o.guard = none) {v : Value} (hy : ∀ W, readW P o a W v)
    (h : wpAnyL2 P md ops C late Q f (listed.setIfInBounds i true) (a.put o.dst v) w) : wpAnyL2 P md ops C late Q (f + 1) listed a w := by
  rw [Array.getElem?_toList] at hi
  simp only [Bool.and_eq_true] at hb
  exact firstLp hb.2 hi (Region.noSelect_spec hb.1.1.1) f listed a w (Region.free_spec hi hb.1.2) (by simpa using hb.1.1.2) (.inl ⟨by simp [Region.wanted, hg], fun W _ => hy W⟩) h
/-- one alone may come up -/
theorem L.one {f i : Nat} {o : Oper} {listed : Array Bool} {a : Act} {w : World} (hi : ops.toList[i]? = some o) (hb : decide (Region.ready md ops listed = [i]) = true) (hg : o.guard = none)
    (h : stepT P o a w (fun a' w' => (late i = false → C w') ∧ wpAnyL2 P md ops C late Q f (listed.setIfInBounds i true) a' w')) : wpAnyL2 P md ops C late Q (f + 1) listed a w := by
  rw [Array.getElem?_toList] at hi
  have hb := of_decide_eq_true hb
  refine ⟨fun h => (by rw [hb] at h; cases h), fun j hj => ?_⟩
  rw [hb] at hj
  obtain rfl : j = i := by simpa using hj
  unfold goesI
  simp only [hi]
  rw [if_pos (by simp [Region.wanted, hg])]
  exact h
/-- one of two may come up -/
theorem L.two {f i k : Nat} {o o' : Oper} {listed : Array Bool} {a : Act} {w : World} (hi : ops.toList[i]? = some o) (hk : ops.toList[k]? = some o') (hb : decide (Region.ready md ops listed = [i, k]) = true) (hg : o.guard = none) (hg' : o'.guard = none)
    (h : stepT P o a w (fun a' w' => (late i = false → C w') ∧ wpAnyL2 P md ops C late Q f (listed.setIfInBounds i true) a' w'))
    (h' : stepT P o' a w (fun a' w' => (late k = false → C w') ∧ wpAnyL2 P md ops C late Q f (listed.setIfInBounds k true) a' w')) : wpAnyL2 P md ops C late Q (f + 1) listed a w := by
  rw [Array.getElem?_toList] at hi hk
  have hb := of_decide_eq_true hb
  refine ⟨fun h => (by rw [hb] at h; cases h), fun j hj => ?_⟩
  rw [hb] at hj
  have hj' : j = i ∨ j = k := by simpa using hj
  unfold goesI
  rcases hj' with rfl | rfl
  · simp only [hi]
    rw [if_pos (by simp [Region.wanted, hg])]
    exact h
  · simp only [hk]
    rw [if_pos (by simp [Region.wanted, hg'])]
    exact h'
theorem L.done {f : Nat} {listed : Array Bool} {a : Act} {w : World} (hb : (Region.ready md ops listed).isEmpty = true) (h : Q .normal a w) : wpAnyL2 P md ops C late Q f listed a w := by
  have hb := List.isEmpty_iff.1 hb
  cases f with
  | zero => exact ⟨hb, h⟩
  | succ f => exact ⟨fun _ => h, fun i hi => by rw [hb] at hi; cases hi⟩
/-- the region: whatever order the tape picks -/
theorem wp_region_l {id : Nat} {a : Act} {w : World} {l : List Oper} (C : World → Prop) (late : Nat → Bool) (hm : P.follows .mixedOrders = true)
    (h : wpAnyL2 P .any l.toArray C late Q l.toArray.size (Array.replicate l.toArray.size false) a w.drew) : (Code.region id l.toArray true).wp P Q a w :=
  wp_region_any hm (wpAny_of_L _ _ _ _ h)
end
end Go.Proofs.YtndhbdbfjkmloaaDoor
namespace Go.Proofs.YtndhbdbfjkmloaaDoor
open Go.RowKit Go.Maps

/-- an expression at these cells that rests on blocks of S alone -/
def ExF (S : Nat → Prop) (hi : Nat) (W : World) (e : Ex) (cs : List Value) : Prop := ∀ X : World, (∀ p : Addr, S p.block → X.cell? p = W.cell? p) → ExIs X hi e cs
section
variable {S S' : Nat → Prop} {hi hi' : Nat} {W W' : World} {e : Ex} {cs : List Value}
theorem ExF.is (h : ExF S hi W e cs) : ExIs W hi e cs := h W fun _ _ => rfl
theorem ExF.keep (h : ExF S hi W e cs) (hk : ∀ p : Addr, S p.block → W'.cell? p = W.cell? p) : ExF S hi W' e cs := fun X hX => h X fun p hp => (hX p hp).trans (hk p hp)
theorem ExF.mono (h : ExF S hi W e cs) (hs : ∀ b, S b → S' b) (hh : hi ≤ hi') : ExF S' hi' W e cs := fun X hX => (h X fun p hp => hX p (hs _ hp)).keep hh fun _ _ => rfl
theorem ExF.set (h : ExF S hi W e cs) {k : Nat} (hk : ¬ S k) (i : Nat) (u : Value) : ExF S hi (W.setCell ⟨k, i, none⟩ u) e cs := h.keep fun p hp => World.cell?_setCell_other W _ p u (by rintro rfl; exact hk hp)
theorem ExF.set7 (h : ExF S hi W e cs) {k : Nat} (hk : ¬ S k) (u0 u1 u2 u3 u4 u5 u6 : Value) : ExF S hi (((((((W.setCell ⟨k, 0, none⟩ u0).setCell ⟨k, 1, none⟩ u1).setCell ⟨k, 2, none⟩ u2).setCell ⟨k, 3, none⟩ u3).setCell ⟨k, 4, none⟩ u4).setCell ⟨k, 5, none⟩ u5).setCell ⟨k, 6, none⟩ u6) e cs := ((((((h.set hk 0 u0).set hk 1 u1).set hk 2 u2).set hk 3 u3).set hk 4 u4).set hk 5 u5).set hk 6 u6
theorem below_set7 {B k : Nat} {w W : World} (h : Below B w W) (hk : B ≤ k) (u0 u1 u2 u3 u4 u5 u6 : Value) : Below B w (((((((W.setCell ⟨k, 0, none⟩ u0).setCell ⟨k, 1, none⟩ u1).setCell ⟨k, 2, none⟩ u2).setCell ⟨k, 3, none⟩ u3).setCell ⟨k, 4, none⟩ u4).setCell ⟨k, 5, none⟩ u5).setCell ⟨k, 6, none⟩ u6) := ((((((h.setCell hk _).setCell hk _).setCell hk _).setCell hk _).setCell hk _).setCell hk _).setCell hk _
theorem size_set7 {k : Nat} {W : World} (u0 u1 u2 u3 u4 u5 u6 : Value) : (((((((W.setCell ⟨k, 0, none⟩ u0).setCell ⟨k, 1, none⟩ u1).setCell ⟨k, 2, none⟩ u2).setCell ⟨k, 3, none⟩ u3).setCell ⟨k, 4, none⟩ u4).setCell ⟨k, 5, none⟩ u5).setCell ⟨k, 6, none⟩ u6).heap.size = W.heap.size := by simp [World.setCell]
/-- what was made lies there still when the result was stored -/
theorem ExF.res7 {lo B k : Nat} (h : ExF (fun b => lo ≤ b ∧ b < W.heap.size) W.heap.size W e cs) (hk : k < lo) (hB : B ≤ lo) (u0 u1 u2 u3 u4 u5 u6 : Value) : ExF (fun b => B ≤ b ∧ b < (((((((W.setCell ⟨k, 0, none⟩ u0).setCell ⟨k, 1, none⟩ u1).setCell ⟨k, 2, none⟩ u2).setCell ⟨k, 3, none⟩ u3).setCell ⟨k, 4, none⟩ u4).setCell ⟨k, 5, none⟩ u5).setCell ⟨k, 6, none⟩ u6).heap.size)
    (((((((W.setCell ⟨k, 0, none⟩ u0).setCell ⟨k, 1, none⟩ u1).setCell ⟨k, 2, none⟩ u2).setCell ⟨k, 3, none⟩ u3).setCell ⟨k, 4, none⟩ u4).setCell ⟨k, 5, none⟩ u5).setCell ⟨k, 6, none⟩ u6).heap.size (((((((W.setCell ⟨k, 0, none⟩ u0).setCell ⟨k, 1, none⟩ u1).setCell ⟨k, 2, none⟩ u2).setCell ⟨k, 3, none⟩ u3).setCell ⟨k, 4, none⟩ u4).setCell ⟨k, 5, none⟩ u5).setCell ⟨k, 6, none⟩ u6) e cs := by
  rw [size_set7]
  exact (h.set7 (k := k) (fun hb => by omega) u0 u1 u2 u3 u4 u5 u6).mono (fun b hb => ⟨Nat.le_trans hB hb.1, hb.2⟩) (Nat.le_refl _)
theorem ExF.leaf (S : Nat → Prop) (hi : Nat) (W : World) (k a b c d : Int) (t : ByteArray) (ht : t.size ≤ maxLen) : ExF S hi W (.mk k a b c d t []) (exCells k a b c d t none 0 0) := fun X _ => ExIs.leaf X hi k a b c d t ht
theorem ExF.node {k a b c d : Int} {t : ByteArray} {ks : List Ex} {A : Option Addr} {cp : Nat} {rows : Nat → List Value} (ht : t.size ≤ maxLen) (hl : ks.length ≤ cp) (hm : cp ≤ maxLen) (hn : A = none → cp = 0) (hb : 0 < ks.length → ∃ ad : Addr, A = some ad ∧ ad.block < hi ∧ S ad.block)
    (hk : ∀ i e, ks[i]? = some e → ExF S hi W e (rows i)) (hc : ∀ i e ad, ks[i]? = some e → A = some ad → ∀ j u, (rows i)[j]? = some u → W.cell? ((ad.add (i * 7)).add j) = some u) : ExF S hi W (.mk k a b c d t ks) (exCells k a b c d t A ks.length cp) :=
  fun X hX => .mk k a b c d t ks A cp rows ht hl hm hn (fun h0 => by obtain ⟨ad, h1, h2, _⟩ := hb h0; exact ⟨ad, h1, h2⟩) (fun i e he => hk i e he X hX) fun i e ad he hA j u hu => by
    obtain ⟨ad', h1, _, h3⟩ := hb (by have := getElem?_lt he; omega)
    rw [hA] at h1
    injection h1 with h1
    subst h1
    rw [hX _ (by rw [add_block, add_block]; exact h3)]
    exact hc i e ad he hA j u hu
theorem ExF.len7 (h : ExF S hi W e cs) : cs.length = 7 := ex_len h.is
end
/-- the cells of so many kids -/
def kdF (rows : Nat → List Value) : Nat → List Value
  | 0 => []
  | j + 1 => kdF rows j ++ rows j
theorem kdF_len {rows : Nat → List Value} : ∀ {j : Nat}, (∀ i, i < j → (rows i).length = 7) → (kdF rows j).length = j * 7
  | 0, _ => rfl
  | j + 1, h => by rw [kdF, List.length_append, kdF_len (fun i hi => h i (by omega)), h j (by omega)]; omega
theorem kdF_get {rows : Nat → List Value} : ∀ {j : Nat}, (∀ i, i < j → (rows i).length = 7) → ∀ {i u : Nat} {v : Value}, i < j → (rows i)[u]? = some v → (kdF rows j)[i * 7 + u]? = some v
  | 0, _, i, _, _, hi, _ => absurd hi (by omega)
  | j + 1, h, i, u, v, hi, hu => by
    have hl := kdF_len (rows := rows) (j := j) (fun i hi => h i (by omega))
    have h7 := h i hi
    have hu7 := getElem?_lt hu
    rw [kdF]
    by_cases hij : i = j
    · subst hij
      rw [List.getElem?_append_right (by omega), hl, Nat.add_sub_cancel_left]
      exact hu
    · have := kdF_get (j := j) (fun i hi => h i (by omega)) (i := i) (by omega) hu
      rw [List.getElem?_append_left (getElem?_lt this)]
      exact this
theorem kdF_same {rows rows' : Nat → List Value} : ∀ {j : Nat}, (∀ i, i < j → rows i = rows' i) → kdF rows j = kdF rows' j
  | 0, _ => rfl
  | j + 1, h => by rw [kdF, kdF, kdF_same (fun i hi => h i (by omega)), h j (by omega)]

/-- kids that were made anew, in a row of one's own -/
structure KidsX (base : Nat) (W : World) (es : List Ex) (V : Option Addr) (c : Nat) (rows : Nat → List Value) : Prop where
  own : W.ownsRow base 27 7 (.slice V es.length c) es.length (kdF rows es.length)
  kid : ∀ i e, es[i]? = some e → ExF (fun b => base ≤ b ∧ b < W.heap.size ∧ some b ≠ (Value.slice V es.length c).ownBlock) W.heap.size W e (rows i)
section
variable {base : Nat} {W W' : World} {es : List Ex} {V : Option Addr} {c : Nat} {rows : Nat → List Value}
theorem KidsX.nil (base : Nat) (W : World) : KidsX base W [] none 0 (fun _ => []) := ⟨World.ownsRow_nil _ _ _ _, fun i e h => by simp at h⟩
theorem KidsX.below (h : KidsX base W es V c rows) (hb : Below W.heap.size W W') : KidsX base W' es V c rows :=
  ⟨own_below h.own hb, fun i e he => ((h.kid i e he).keep (W' := W') fun _ hp => hb.cell hp.2.1).mono (fun _ hb' => ⟨hb'.1, Nat.lt_of_lt_of_le hb'.2.1 hb.size, hb'.2.2⟩) hb.size⟩
theorem KidsX.far (h : KidsX base W es V c rows) {k : Nat} (hk : k < base) (i : Nat) (u : Value) : KidsX base (W.setCell ⟨k, i, none⟩ u) es V c rows :=
  have hs : (W.setCell ⟨k, i, none⟩ u).heap.size = W.heap.size := by simp [World.setCell]
  ⟨own_far h.own ⟨rfl, rfl, rfl, by simp [World.setCell], fun q hq hne => Below.heap_setCell W ⟨k, i, none⟩ u q (by rintro rfl; exact hne rfl)⟩ hk, fun j e he => by
    rw [hs]
    exact (h.kid j e he).keep fun p hp => World.cell?_setCell_other W _ p u (by rintro rfl; have := hp.1; simp at this; omega)⟩
theorem KidsX.len7 (h : KidsX base W es V c rows) : ∀ i, i < es.length → (rows i).length = 7 := fun i hi => (h.kid i _ (List.getElem?_eq_getElem hi)).len7
/-- one kid more -/
theorem KidsX.push {V' : Option Addr} {c' lo : Nat} {e : Ex} {r : List Value} (h : KidsX base W es V c rows) (hlo : base ≤ lo) (hold : ∀ q, (Value.slice V es.length c).ownBlock = some q → q < lo) (hE : ExF (fun b => lo ≤ b ∧ b < W.heap.size) W.heap.size W e r)
    (hown : W'.ownsRow base 27 7 (.slice V' (es.length + 1) c') (es.length + 1) (kdF rows es.length ++ r)) (hg : W.grownBy W' (Value.slice V es.length c).ownBlock)
    (hat : (Value.slice V' (es.length + 1) c').ownBlock = (Value.slice V es.length c).ownBlock ∨ (Value.slice V' (es.length + 1) c').ownBlock = some W.heap.size) :
    KidsX base W' (es ++ [e]) V' c' (fun i => if i = es.length then r else rows i) := by
  have hl : (es ++ [e]).length = es.length + 1 := by simp
  have hne : ∀ b, b < W.heap.size → some b ≠ (Value.slice V es.length c).ownBlock → some b ≠ (Value.slice V' (es.length + 1) c').ownBlock := fun b hb hne => by
    rcases hat with h1 | h1
    · rw [h1]; exact hne
    · rw [h1]; intro e; injection e with e; omega
  have hkeep : ∀ p : Addr, p.block < W.heap.size → some p.block ≠ (Value.slice V es.length c).ownBlock → W'.cell? p = W.cell? p := fun p h1 h2 => World.cell?_of_block (hg.block p.block h1 h2)
  constructor
  · rw [hl, kdF, if_pos rfl, kdF_same (rows' := rows) fun i hi => if_neg (by omega)]
    exact hown
  · intro i x hx
    rw [hl]
    by_cases hi : i < es.length
    · rw [List.getElem?_append_left hi] at hx
      rw [if_neg (by omega)]
      exact ((h.kid i x hx).keep (W' := W') fun p hp => hkeep p hp.2.1 hp.2.2).mono (fun b hb => ⟨hb.1, Nat.lt_of_lt_of_le hb.2.1 hg.size, hne b hb.2.1 hb.2.2⟩) hg.size
    · have hi' : i = es.length := by have := getElem?_lt hx; simp at this; omega
      subst hi'
      simp at hx
      subst hx
      rw [if_pos rfl]
      have hx : ∀ b, lo ≤ b → some b ≠ (Value.slice V es.length c).ownBlock := fun b hb e => by have := hold b e.symm; omega
      exact (hE.keep (W' := W') fun p hp => hkeep p hp.2 (hx _ hp.1)).mono (fun b hb => ⟨Nat.le_trans hlo hb.1, Nat.lt_of_lt_of_le hb.2 hg.size, hne b hb.2 (hx b hb.1)⟩) hg.size
theorem KidsX.old (h : KidsX base W es V c rows) : ∀ q, (Value.slice V es.length c).ownBlock = some q → q < W.heap.size := fun q hq => (h.own.lt q hq).2
/-- where the row lies -/
theorem KidsX.shape (h : KidsX base W es V c rows) : es.length ≤ c ∧ c ≤ maxLen ∧ (V = none → c = 0) ∧ (0 < es.length → ∃ ad : Addr, V = some ad ∧ ad.block < W.heap.size ∧ base ≤ ad.block ∧ ad.block < W.heap.size) ∧
    ∀ (i : Nat) (e : Ex) (ad : Addr), es[i]? = some e → V = some ad → ∀ j u, (rows i)[j]? = some u → W.cell? ((ad.add (i * 7)).add j) = some u := by
  have ho := h.own
  have hlt := ho.lt
  have h7 := h.len7
  rcases ho.2 with ⟨h1, h2⟩ | ⟨g1, cap, cur, hv, h3, h4, h5, h6, _⟩
  · injection h1 with e1 e2 e3
    subst e1 e3
    exact ⟨by omega, by unfold maxLen; omega, fun _ => rfl, fun h => by omega, fun _ _ _ _ h => by cases h⟩
  · injection hv with e1 e2 e3
    subst e1 e3
    refine ⟨h5, h6, fun h => (by cases h), fun _ => ⟨_, rfl, (hlt g1 rfl).2, (hlt g1 rfl).1, (hlt g1 rfl).2⟩, fun i e ad he hA j u hu => ?_⟩
    injection hA with hA
    subst hA
    rw [add_add']
    exact ho.cells rfl _ u (kdF_get h7 (getElem?_lt he) hu)
/-- the node of these kids -/
theorem KidsX.node (h : KidsX base W es V c rows) (k a b c' d : Int) (t : ByteArray) (ht : t.size ≤ maxLen) : ExF (fun b => base ≤ b ∧ b < W.heap.size) W.heap.size W (.mk k a b c' d t es) (exCells k a b c' d t V es.length c) := by
  obtain ⟨h1, h2, h3, h4, h5⟩ := h.shape
  exact ExF.node ht h1 h2 h3 h4 (fun i e he => (h.kid i e he).mono (fun b hb => ⟨hb.1, hb.2.1⟩) (Nat.le_refl _)) h5
end
/-- a node over a block of its one kid's cells, of its two kids' -/
theorem ExF.one {S : Nat → Prop} {hi b : Nat} {W : World} {T : TypeId} {e : Ex} {r : List Value} {cs : Array Value} (h : ExF S hi W e r) (hb : Blk W b T cs) (hcs : cs.toList = r) (hS : S b) (hlt : b < hi) (k : Int) : ExF S hi W (ofN k [e]) (exCells k 0 0 0 0 ⟨#[]⟩ (some ⟨b, 0, none⟩) 1 1) :=
  ExF.node (ks := [e]) (rows := fun _ => r) (by decide) (Nat.le_refl _) (by simp [maxLen]) (fun h => by cases h) (fun _ => ⟨_, rfl, hlt, hS⟩) (fun i x hx => by
    match i, hx with
    | 0, hx => simp at hx; subst hx; exact h) fun i x ad hx hA j u hu => by
    match i, hx with
    | 0, hx =>
      injection hA with hA
      subst hA
      rw [Nat.zero_mul, add_at, cell_add, hb.cell, ← Array.getElem?_toList, hcs, Nat.zero_add]
      exact hu
theorem ExF.two {S : Nat → Prop} {hi b : Nat} {W : World} {T : TypeId} {e f : Ex} {r q : List Value} {cs : Array Value} (h : ExF S hi W e r) (h' : ExF S hi W f q) (hb : Blk W b T cs) (hcs : cs.toList = r ++ q) (hS : S b) (hlt : b < hi) (k : Int) : ExF S hi W (ofN k [e, f]) (exCells k 0 0 0 0 ⟨#[]⟩ (some ⟨b, 0, none⟩) 2 2) :=
  have h7 := h.len7
  ExF.node (ks := [e, f]) (rows := fun i => if i = 0 then r else q) (by decide) (Nat.le_refl _) (by simp [maxLen]) (fun h => by cases h) (fun _ => ⟨_, rfl, hlt, hS⟩) (fun i x hx => by
    match i, hx with
    | 0, hx => simp at hx; subst hx; exact h
    | 1, hx => simp at hx; subst hx; exact h') fun i x ad hx hA j u hu => by
    match i, hx with
    | 0, hx =>
      injection hA with hA
      subst hA
      rw [if_pos rfl] at hu
      rw [Nat.zero_mul, add_at, cell_add, hb.cell, ← Array.getElem?_toList, hcs, Nat.zero_add, List.getElem?_append_left (getElem?_lt hu)]
      exact hu
    | 1, hx =>
      injection hA with hA
      subst hA
      rw [if_neg (by decide)] at hu
      rw [add_at, cell_add, hb.cell, ← Array.getElem?_toList, hcs, List.getElem?_append_right (by omega), h7, Nat.one_mul, Nat.add_sub_cancel_left]
      exact hu
theorem expr_info : (Tryd.prog.info? 27).map (fun i => (i.zero, i.size, i.bytes)) = some (some (.agg #[.int .i64 0, .int .u64 0, .int .u64 0, .int .u64 0, .int .u64 0, .string ⟨#[]⟩, .slice none 0 0]), 7, 80) := by kernel_rfl
/-- what a region reads where a kid is appended: the box of what is made, the kid's box -/
structure KdC (ob kb : Nat) (o k : Array Value) (W : World) : Prop where
  out : Blk W ob 27 o
  kid : Blk W kb 27 k
theorem KdC.below {ob kb : Nat} {o k : Array Value} {W W' : World} (h : KdC ob kb o k W) (hb : Below W.heap.size W W') : KdC ob kb o k W' := ⟨h.out.below hb h.out.lt, h.kid.below hb h.kid.lt⟩
theorem KdC.drew {ob kb : Nat} {o k : Array Value} {W : World} (h : KdC ob kb o k W) : KdC ob kb o k W.drew := ⟨h.out.drew, h.kid.drew⟩
theorem KdC.grown {ob kb : Nat} {o k : Array Value} {W W' : World} {r : Option Nat} (h : KdC ob kb o k W) (hg : W.grownBy W' r) (h1 : some ob ≠ r) (h2 : some kb ≠ r) : KdC ob kb o k W' := ⟨h.out.grown hg h1, h.kid.grown hg h2⟩
end Go.Proofs.YtndhbdbfjkmloaaDoor
