/- A region that draws its order: operations that only read (each has one value in all worlds of a class) are taken first; of the others all that may come up are looked at, one by one. -/
import Derived.Test.YtjmckmjngnmagaaQMid
namespace Go.Proofs.Ytjmckmjngnmagaa

section
variable {P : Program} {ops : Array Oper} {md : Region.Mode} {C : World → Prop} {Q : Exit → Act → World → Prop}
/-- a step that does not fall out of the way -/
def stepTo (P : Program) (o : Oper) (a : Act) (w : World) (K : Act → World → Prop) : Prop := match (execOp a.eval o).run P w with
  | .ok (.value u) w' => K (a.put o.dst u) w'
  | .ok .skip w' => K (a.put o.dst undef) w'
  | .ok (.enter f args) w' => Calls P f args w' (fun e w'' => ∃ v, e = .returned v ∧ K (a.put o.dst v) w'')
  | _ => False
theorem stepTo.wp {o : Oper} {a : Act} {w : World} {K : Act → World → Prop} (h : stepTo P o a w K) : o.wp P a w K Q := by
  unfold stepTo at h
  unfold Oper.wp
  generalize (execOp a.eval o).run P w = r at *
  cases r with
  | ok n w' =>
    cases n <;> simp only at h <;> simp only [Oper.upon]
    case value u => exact h
    case skip => exact h
    case enter f args => exact h.mono fun e w'' ⟨v, he, hw''⟩ => by subst he; exact hw''
  | halt x w' => simp only at h
theorem stepTo.mono {o : Oper} {a : Act} {w : World} {K K' : Act → World → Prop} (hK : ∀ a w, K a w → K' a w) (h : stepTo P o a w K) : stepTo P o a w K' := by
  unfold stepTo at *
  generalize (execOp a.eval o).run P w = r at *
  cases r with
  | ok n w' =>
    cases n <;> simp only at h ⊢
    case value u => exact hK _ _ h
    case skip => exact hK _ _ h
    case enter f args => exact h.mono fun e w'' ⟨v, he, hw''⟩ => ⟨v, he, hK _ _ hw''⟩
  | halt x w' => simp only at h
/-- a read: this value, in the world that it got -/
def readAt (P : Program) (o : Oper) (a : Act) (w : World) (v : Value) : Prop := match (execOp a.eval o).run P w with
  | .ok (.value u) w' => w' = w ∧ u = v
  | .ok .skip w' => w' = w ∧ v = undef
  | _ => False
def ReadIn (P : Program) (ops : Array Oper) (C : World → Prop) (o : Oper) (v : Value) (a : Act) : Prop :=
  (Region.wanted o (yielded ops a.tmps) = true ∧ ∀ w, C w → readAt P o a w v) ∨ (Region.wanted o (yielded ops a.tmps) = false ∧ v = undef)
def goesOp (P : Program) (ops : Array Oper) (i : Nat) (K : Act → World → Prop) (a : Act) (w : World) : Prop := match ops[i]? with
  | none => K a w
  | some o => if Region.wanted o (yielded ops a.tmps) then stepTo P o a w K else K (a.put o.dst undef) w
theorem goesOp.mono {i : Nat} {a : Act} {w : World} {K K' : Act → World → Prop} (hK : ∀ a w, K a w → K' a w) (h : goesOp P ops i K a w) : goesOp P ops i K' a w := by
  unfold goesOp at *
  split
  · rename_i ho; simp only [ho] at h; exact hK _ _ h
  · rename_i o ho
    simp only [ho] at h
    split
    · rename_i hw; simp only [hw, if_true] at h; exact stepTo.mono hK h
    · rename_i hw; simp only [hw] at h; exact hK _ _ h
/-- whatever order is picked from here on -/
def wpAnyG (P : Program) (md : Region.Mode) (ops : Array Oper) (C : World → Prop) (Q : Exit → Act → World → Prop) : Nat → Array Bool → Act → World → Prop
  | 0, listed, a, w => Region.ready md ops listed = [] ∧ Q .normal a w
  | f + 1, listed, a, w => (Region.ready md ops listed = [] → Q .normal a w) ∧ ∀ i ∈ Region.ready md ops listed, goesOp P ops i (fun a' w' => C w' ∧ wpAnyG P md ops C Q f (listed.setIfInBounds i true) a' w') a w
theorem wpAny_of_G : ∀ (f : Nat) (listed : Array Bool) (a : Act) (w : World), wpAnyG P md ops C Q f listed a w → wpAny P md ops Q f listed a w
  | 0, _, _, _, h => h
  | f + 1, listed, a, w, h => ⟨h.1, fun i hi => by
      have h1 := h.2 i hi
      unfold goesOp at h1
      unfold wpOp
      split
      · rename_i ho; simp only [ho] at h1; exact wpAny_of_G f _ _ _ h1.2
      · rename_i o ho
        simp only [ho] at h1
        split
        · rename_i hw
          simp only [hw, if_true] at h1
          exact .inl (Oper.wp_mono (fun a' w' h2 => wpAny_of_G f _ _ _ h2.2) (stepTo.wp h1))
        · rename_i hw
          simp only [hw] at h1
          exact wpAny_of_G f _ _ _ h1.2⟩
theorem ReadIn.of_same {o : Oper} {v : Value} {a a' : Act} (hy : ReadIn P ops C o v a) (he : execOp a'.eval o = execOp a.eval o)
    (hw : Region.wanted o (yielded ops a'.tmps) = Region.wanted o (yielded ops a.tmps)) : ReadIn P ops C o v a' := by
  unfold ReadIn readAt at *
  rw [he, hw]
  exact hy
theorem ReadIn.goes {i : Nat} {o : Oper} {v : Value} {a : Act} {w : World} (hi : ops[i]? = some o) (hC : C w) (hy : ReadIn P ops C o v a) {K : Act → World → Prop} (h : K (a.put o.dst v) w) : goesOp P ops i K a w := by
  unfold goesOp
  simp only [hi]
  rcases hy with ⟨hw, hv⟩ | ⟨hw, rfl⟩
  · simp only [hw, if_true]
    have h1 := hv w hC
    unfold readAt at h1
    unfold stepTo
    generalize (execOp a.eval o).run P w = r at *
    cases r with
    | ok n w' =>
      cases n <;> simp only at h1 ⊢
      case value u => obtain ⟨rfl, rfl⟩ := h1; exact h
      case skip => obtain ⟨rfl, rfl⟩ := h1; exact h
    | halt x w' => simp only at h1
  · simp only [hw, Bool.false_eq_true, if_false]; exact h
/-- one operation apart from a read: it makes no difference whether the read's value is there already -/
theorem goes_put {j : Nat} {oi oj : Oper} {v : Value} (hj : ops[j]? = some oj) (hap : oi.apart ops oj = true)
    (hsi : ∀ cs b, oi.op ≠ .select cs b) (hsj : ∀ cs b, oj.op ≠ .select cs b) {K : Act → World → Prop} {a : Act} {w : World}
    (hy : ReadIn P ops C oi v a) (h : goesOp P ops j K (a.put oi.dst v) w) :
    goesOp P ops j (fun a' w' => ReadIn P ops C oi v a' ∧ K (a'.put oi.dst v) w') a w := by
  obtain ⟨h1, h2, h3⟩ := Oper.apart_spec hap
  have keep : ∀ u, ReadIn P ops C oi v (a.put oj.dst u) := fun u =>
    hy.of_same (execOp_put oi hsi a oj.dst u h3) (wanted_put oi a oj.dst u h3)
  have hcm : ∀ u, (a.put oi.dst v).put oj.dst u = (a.put oj.dst u).put oi.dst v := fun u => by rw [← Act.put_comm a v u h2]
  unfold goesOp at *
  simp only [hj] at *
  rw [wanted_put oj a oi.dst v h1] at h
  split
  · rename_i hw
    simp only [hw, if_true] at h
    unfold stepTo at *
    rw [execOp_put oj hsj a oi.dst v h1] at h
    generalize (execOp a.eval oj).run P w = r at *
    cases r with
    | ok n w' =>
      cases n <;> simp only at h ⊢
      case value u => exact ⟨keep u, by rw [← hcm u]; exact h⟩
      case skip => exact ⟨keep _, by rw [← hcm undef]; exact h⟩
      case enter f args => exact h.mono fun e w'' ⟨u, he, hw''⟩ => ⟨u, he, keep u, by rw [← hcm u]; exact hw''⟩
    | halt x w' => simp only at h
  · rename_i hw
    simp only [hw] at h
    exact ⟨keep _, by rw [← hcm undef]; exact h⟩
theorem firstG {i : Nat} {oi : Oper} {v : Value} (hi : ops[i]? = some oi) (hsel : ∀ (j : Nat) (o : Oper) cs b, ops[j]? = some o → o.op ≠ .select cs b) :
    ∀ (fuel : Nat) (listed : Array Bool) (a : Act) (w : World), C w →
      (∀ j oj, ops[j]? = some oj → j ≠ i → listed.getD j true = false → (∀ e ∈ oj.after, Region.binds md e = true → e.on ≠ i) → oi.apart ops oj = true) →
      i ∈ Region.ready md ops listed → ReadIn P ops C oi v a →
      wpAnyG P md ops C Q fuel (listed.setIfInBounds i true) (a.put oi.dst v) w → wpAnyG P md ops C Q (fuel + 1) listed a w := by
  intro fuel
  induction fuel with
  | zero =>
    intro listed a w hC _ hr hy H
    refine ⟨fun h => (by rw [h] at hr; cases hr), fun j hj => ?_⟩
    by_cases hji : j = i
    · subst hji; exact hy.goes hi hC ⟨hC, H⟩
    · have := ready_mono hj hji
      rw [H.1] at this
      cases this
  | succ fuel ih =>
    intro listed a w hC hfree hr hy H
    refine ⟨fun h => (by rw [h] at hr; cases hr), fun j hj => ?_⟩
    by_cases hji : j = i
    · subst hji; exact hy.goes hi hC ⟨hC, H⟩
    · have h1 := H.2 j (ready_mono hj hji)
      obtain ⟨hjun, oj, hoj, hall⟩ := mem_ready.1 hj
      have hnot : ∀ e ∈ oj.after, Region.binds md e = true → e.on ≠ i := fun e he hb heq => by
        have h1 := hall e he hb
        have h0 := (mem_ready.1 hr).1
        rw [heq] at h1
        rcases Nat.lt_or_ge i listed.size with h' | h'
        · simp [h'] at h0 h1; rw [h0] at h1; cases h1
        · simp [Array.getElem?_eq_none h'] at h1
      have h2 := goes_put hoj (hfree j oj hoj hji hjun hnot) (fun cs b => hsel i oi cs b hi) (fun cs b => hsel j oj cs b hoj) hy h1
      have hfree' : ∀ k ok, ops[k]? = some ok → k ≠ i → (listed.setIfInBounds j true).getD k true = false →
          (∀ e ∈ ok.after, Region.binds md e = true → e.on ≠ i) → oi.apart ops ok = true := fun k ok hk hki hun hno => by
        refine hfree k ok hk hki ?_ hno
        by_cases hjk : j = k
        · subst hjk; exact hjun
        · rw [getD_set_ne true hjk] at hun; exact hun
      refine goesOp.mono (fun a' w' h3 => ⟨h3.2.1, ih (listed.setIfInBounds j true) a' w' h3.2.1 hfree' (ready_mono hr (Ne.symm hji)) h3.1 ?_⟩) h2
      rw [Array.setIfInBounds_comm _ _ hji]
      exact h3.2.2

/-- a read is taken first -/
theorem G.read {f i : Nat} {o : Oper} {listed : Array Bool} {a : Act} {w : World} (hi : ops.toList[i]? = some o) (hb : (Region.noSelect ops && (Region.ready md ops listed).contains i && Region.free md ops listed i) = true) (hC : C w) (v : Value) (hy : ReadIn P ops C o v a)
    (h : wpAnyG P md ops C Q f (listed.setIfInBounds i true) (a.put o.dst v) w) : wpAnyG P md ops C Q (f + 1) listed a w := by
  rw [Array.getElem?_toList] at hi
  simp only [Bool.and_eq_true] at hb
  exact firstG hi (Region.noSelect_spec hb.1.1) f listed a w hC (Region.free_spec hi hb.2) (by simpa using hb.1.2) hy h
theorem G.rd {f i : Nat} {o : Oper} {listed : Array Bool} {a : Act} {w : World} (hi : ops.toList[i]? = some o) (hb : (Region.noSelect ops && (Region.ready md ops listed).contains i && Region.free md ops listed i) = true) (hC : C w) (hg : o.guard = none) {v : Value} (hy : ∀ W, C W → readAt P o a W v)
    (h : wpAnyG P md ops C Q f (listed.setIfInBounds i true) (a.put o.dst v) w) : wpAnyG P md ops C Q (f + 1) listed a w := G.read hi hb hC v (.inl ⟨by simp [Region.wanted, hg], hy⟩) h
/-- one alone may come up -/
theorem G.one {f i : Nat} {o : Oper} {listed : Array Bool} {a : Act} {w : World} (hi : ops.toList[i]? = some o) (hb : decide (Region.ready md ops listed = [i]) = true) (hg : o.guard = none)
    (h : stepTo P o a w (fun a' w' => C w' ∧ wpAnyG P md ops C Q f (listed.setIfInBounds i true) a' w')) : wpAnyG P md ops C Q (f + 1) listed a w := by
  rw [Array.getElem?_toList] at hi
  have hb := of_decide_eq_true hb
  refine ⟨fun h => (by rw [hb] at h; cases h), fun j hj => ?_⟩
  rw [hb] at hj
  obtain rfl : j = i := by simpa using hj
  unfold goesOp
  simp only [hi]
  rw [if_pos (by simp [Region.wanted, hg])]
  exact h
/-- one of two may come up -/
theorem G.two {f i k : Nat} {o o' : Oper} {listed : Array Bool} {a : Act} {w : World} (hi : ops.toList[i]? = some o) (hk : ops.toList[k]? = some o') (hb : decide (Region.ready md ops listed = [i, k]) = true) (hg : o.guard = none) (hg' : o'.guard = none)
    (h : stepTo P o a w (fun a' w' => C w' ∧ wpAnyG P md ops C Q f (listed.setIfInBounds i true) a' w'))
    (h' : stepTo P o' a w (fun a' w' => C w' ∧ wpAnyG P md ops C Q f (listed.setIfInBounds k true) a' w')) : wpAnyG P md ops C Q (f + 1) listed a w := by
  rw [Array.getElem?_toList] at hi hk
  have hb := of_decide_eq_true hb
  refine ⟨fun h => (by rw [hb] at h; cases h), fun j hj => ?_⟩
  rw [hb] at hj
  have hj' : j = i ∨ j = k := by simpa using hj
  unfold goesOp
  rcases hj' with rfl | rfl
  · simp only [hi]
    rw [if_pos (by simp [Region.wanted, hg])]
    exact h
  · simp only [hk]
    rw [if_pos (by simp [Region.wanted, hg'])]
    exact h'
theorem G.done {f : Nat} {listed : Array Bool} {a : Act} {w : World} (hb : (Region.ready md ops listed).isEmpty = true) (h : Q .normal a w) : wpAnyG P md ops C Q f listed a w := by
  have hb := List.isEmpty_iff.1 hb
  cases f with
  | zero => exact ⟨hb, h⟩
  | succ f => exact ⟨fun _ => h, fun i hi => by rw [hb] at hi; cases hi⟩
theorem ReadIn.free {o : Oper} {v : Value} {a : Act} (hg : o.guard = none) (h : ∀ w, C w → readAt P o a w v) : ReadIn P ops C o v a := .inl ⟨by simp [Region.wanted, hg], h⟩
theorem ReadIn.take {o : Oper} {j : Nat} {want : Bool} {v : Value} {a : Act} (hg : o.guard = some (j, want)) (hd : ∃ d, (ops[j]?).bind (·.dst) = some d ∧ a.tmps[d]? = some (.bool want)) (h : ∀ w, C w → readAt P o a w v) : ReadIn P ops C o v a := by
  obtain ⟨d, hd, hv⟩ := hd
  exact .inl ⟨by simp [Region.wanted, hg, yielded, hd, hv], h⟩
theorem ReadIn.skip {o : Oper} {j : Nat} {want : Bool} {a : Act} (hg : o.guard = some (j, want)) (hd : ∃ d u, (ops[j]?).bind (·.dst) = some d ∧ a.tmps[d]? = some u ∧ (u = .bool (!want) ∨ u = undef)) : ReadIn P ops C o undef a := by
  obtain ⟨d, u, hd, hv, hb⟩ := hd
  refine .inr ⟨?_, rfl⟩
  simp only [Region.wanted, hg, yielded, hd, hv, Option.bind_some]
  rcases hb with rfl | rfl
  · cases want <;> rfl
  · cases want <;> rfl
/-- the region: whatever order the tape picks -/
theorem wp_region_g {id : Nat} {a : Act} {w : World} {l : List Oper} (C : World → Prop) (hm : P.follows .mixedOrders = true)
    (h : wpAnyG P .any l.toArray C Q l.toArray.size (Array.replicate l.toArray.size false) a w.drew) : (Code.region id l.toArray true).wp P Q a w :=
  wp_region_any hm (wpAny_of_G _ _ _ _ h)
end
end Go.Proofs.Ytjmckmjngnmagaa
