/- A region that draws its order: operations that only read (each has one value in all worlds of a class) are taken first; of the others all that may come up are looked at, one by one; operations may be late: behind them the class need not hold. -/
import Derived.Test.YtndhbdbfjkmloaaDoorQMid
import Derived.Laws.OwnMore
import Derived.Deep.RegionLawGrows
import Derived.Test.YtndhbdbfjkmloaaDoorBase
namespace Go.Proofs.YtndhbdbfjkmloaaDoor

section
variable {P : Program} {ops : Array Oper} {md : Region.Mode} {C : World → Prop} {late : Nat → Bool} {Q : Exit → Act → World → Prop}
/-- a step that does not fall out of the way -/
def stepT (P : Program) (o : Oper) (a : Act) (w : World) (K : Act → World → Prop) : Prop := match (execOp a.eval o).run P w with
  | .ok (.value u) w' => K (a.put o.dst u) w'
  | .ok .skip w' => K (a.put o.dst undef) w'
  | .ok (.enter f args) w' => Calls P f args w' (fun e w'' => ∃ v, e = .returned v ∧ K (a.put o.dst v) w'')
  | _ => False
theorem stepT.wp {o : Oper} {a : Act} {w : World} {K : Act → World → Prop} (h : stepT P o a w K) : o.wp P a w K Q := by
  unfold stepT at h
  unfold Oper.wp
  generalize (execOp a.eval o).run P w = r at *
  cases r with
  | ok n w' =>
    cases n <;> simp only at h <;> simp only [Oper.upon]
    case value u => exact h
    case skip => exact h
    case enter f args => exact h.mono fun e w'' ⟨v, he, hw''⟩ => by subst he; exact hw''
  | halt x w' => simp only at h
theorem stepT.mono {o : Oper} {a : Act} {w : World} {K K' : Act → World → Prop} (hK : ∀ a w, K a w → K' a w) (h : stepT P o a w K) : stepT P o a w K' := by
  unfold stepT at *
  generalize (execOp a.eval o).run P w = r at *
  cases r with
  | ok n w' =>
    cases n <;> simp only at h ⊢
    case value u => exact hK _ _ h
    case skip => exact hK _ _ h
    case enter f args => exact h.mono fun e w'' ⟨v, he, hw''⟩ => ⟨v, he, hK _ _ hw''⟩
  | halt x w' => simp only at h
/-- a read: this value, in the world that it got -/
def readW (P : Program) (o : Oper) (a : Act) (w : World) (v : Value) : Prop := match (execOp a.eval o).run P w with
  | .ok (.value u) w' => w' = w ∧ u = v
  | .ok .skip w' => w' = w ∧ v = undef
  | _ => False
def ReadC (P : Program) (ops : Array Oper) (C : World → Prop) (o : Oper) (v : Value) (a : Act) : Prop :=
  (Region.wanted o (yielded ops a.tmps) = true ∧ ∀ w, C w → readW P o a w v) ∨ (Region.wanted o (yielded ops a.tmps) = false ∧ v = undef)
def goesI (P : Program) (ops : Array Oper) (i : Nat) (K : Act → World → Prop) (a : Act) (w : World) : Prop := match ops[i]? with
  | none => K a w
  | some o => if Region.wanted o (yielded ops a.tmps) then stepT P o a w K else K (a.put o.dst undef) w
theorem goesI.mono {i : Nat} {a : Act} {w : World} {K K' : Act → World → Prop} (hK : ∀ a w, K a w → K' a w) (h : goesI P ops i K a w) : goesI P ops i K' a w := by
  unfold goesI at *
  split
  · rename_i ho; simp only [ho] at h; exact hK _ _ h
  · rename_i o ho
    simp only [ho] at h
    split
    · rename_i hw; simp only [hw, if_true] at h; exact stepT.mono hK h
    · rename_i hw; simp only [hw] at h; exact hK _ _ h
/-- whatever order is picked from here on -/
def wpAnyL2 (P : Program) (md : Region.Mode) (ops : Array Oper) (C : World → Prop) (late : Nat → Bool) (Q : Exit → Act → World → Prop) : Nat → Array Bool → Act → World → Prop
  | 0, listed, a, w => Region.ready md ops listed = [] ∧ Q .normal a w
  | f + 1, listed, a, w => (Region.ready md ops listed = [] → Q .normal a w) ∧ ∀ i ∈ Region.ready md ops listed, goesI P ops i (fun a' w' => (late i = false → C w') ∧ wpAnyL2 P md ops C late Q f (listed.setIfInBounds i true) a' w') a w
theorem wpAny_of_L : ∀ (f : Nat) (listed : Array Bool) (a : Act) (w : World), wpAnyL2 P md ops C late Q f listed a w → wpAny P md ops Q f listed a w
  | 0, _, _, _, h => h
  | f + 1, listed, a, w, h => ⟨h.1, fun i hi => by
      have h1 := h.2 i hi
      unfold goesI at h1
      unfold wpOp
      split
      · rename_i ho; simp only [ho] at h1; exact wpAny_of_L f _ _ _ h1.2
      · rename_i o ho
        simp only [ho] at h1
        split
        · rename_i hw
          simp only [hw, if_true] at h1
          exact .inl (Oper.wp_mono (fun a' w' h2 => wpAny_of_L f _ _ _ h2.2) (stepT.wp h1))
        · rename_i hw
          simp only [hw] at h1
          exact wpAny_of_L f _ _ _ h1.2⟩
theorem ReadC.of_same {o : Oper} {v : Value} {a a' : Act} (hy : ReadC P ops C o v a) (he : execOp a'.eval o = execOp a.eval o)
    (hw : Region.wanted o (yielded ops a'.tmps) = Region.wanted o (yielded ops a.tmps)) : ReadC P ops C o v a' := by
  unfold ReadC readW at *
  rw [he, hw]
  exact hy
theorem ReadC.goes {i : Nat} {o : Oper} {v : Value} {a : Act} {w : World} (hi : ops[i]? = some o) (hC : C w) (hy : ReadC P ops C o v a) {K : Act → World → Prop} (h : K (a.put o.dst v) w) : goesI P ops i K a w := by
  unfold goesI
  simp only [hi]
  rcases hy with ⟨hw, hv⟩ | ⟨hw, rfl⟩
  · simp only [hw, if_true]
    have h1 := hv w hC
    unfold readW at h1
    unfold stepT
    generalize (execOp a.eval o).run P w = r at *
    cases r with
    | ok n w' =>
      cases n <;> simp only at h1 ⊢
      case value u => obtain ⟨rfl, rfl⟩ := h1; exact h
      case skip => obtain ⟨rfl, rfl⟩ := h1; exact h
    | halt x w' => simp only at h1
  · simp only [hw, Bool.false_eq_true, if_false]; exact h
/-- one operation apart from a read: it makes no difference whether the read's value is there already -/
theorem goesI_put {j : Nat} {oi oj : Oper} {v : Value} (hj : ops[j]? = some oj) (hap : oi.apart ops oj = true)
    (hsi : ∀ cs b, oi.op ≠ .select cs b) (hsj : ∀ cs b, oj.op ≠ .select cs b) {K : Act → World → Prop} {a : Act} {w : World}
    (hy : ReadC P ops C oi v a) (h : goesI P ops j K (a.put oi.dst v) w) :
    goesI P ops j (fun a' w' => ReadC P ops C oi v a' ∧ K (a'.put oi.dst v) w') a w := by
  obtain ⟨h1, h2, h3⟩ := Oper.apart_spec hap
  have keep : ∀ u, ReadC P ops C oi v (a.put oj.dst u) := fun u =>
    hy.of_same (execOp_put oi hsi a oj.dst u h3) (wanted_put oi a oj.dst u h3)
  have hcm : ∀ u, (a.put oi.dst v).put oj.dst u = (a.put oj.dst u).put oi.dst v := fun u => by rw [← Act.put_comm a v u h2]
  unfold goesI at *
  simp only [hj] at *
  rw [wanted_put oj a oi.dst v h1] at h
  split
  · rename_i hw
    simp only [hw, if_true] at h
    unfold stepT at *
    rw [execOp_put oj hsj a oi.dst v h1] at h
    generalize (execOp a.eval oj).run P w = r at *
    cases r with
    | ok n w' =>
      cases n <;> simp only at h ⊢
      case value u => exact ⟨keep u, by rw [← hcm u]; exact h⟩
      case skip => exact ⟨keep _, by rw [← hcm undef]; exact h⟩
      case enter f args => exact h.mono fun e w'' ⟨u, he, hw''⟩ => ⟨u, he, keep u, by rw [← hcm u]; exact hw''⟩
    | halt x w' => simp only at h
  · rename_i hw
    simp only [hw] at h
    exact ⟨keep _, by rw [← hcm undef]; exact h⟩
theorem firstL {i : Nat} {oi : Oper} {v : Value} (hlate : ∀ j, late j = true → ∀ listed : Array Bool, listed.getD i true = false → j ∉ Region.ready md ops listed) (hi : ops[i]? = some oi) (hsel : ∀ (j : Nat) (o : Oper) cs b, ops[j]? = some o → o.op ≠ .select cs b) :
    ∀ (fuel : Nat) (listed : Array Bool) (a : Act) (w : World), C w →
      (∀ j oj, ops[j]? = some oj → j ≠ i → listed.getD j true = false → (∀ e ∈ oj.after, Region.binds md e = true → e.on ≠ i) → oi.apart ops oj = true) →
      i ∈ Region.ready md ops listed → ReadC P ops C oi v a →
      wpAnyL2 P md ops C late Q fuel (listed.setIfInBounds i true) (a.put oi.dst v) w → wpAnyL2 P md ops C late Q (fuel + 1) listed a w := by
  intro fuel
  induction fuel with
  | zero =>
    intro listed a w hC _ hr hy H
    refine ⟨fun h => (by rw [h] at hr; cases hr), fun j hj => ?_⟩
    by_cases hji : j = i
    · subst hji; exact hy.goes hi hC ⟨fun _ => hC, H⟩
    · have := ready_mono hj hji
      rw [H.1] at this
      cases this
  | succ fuel ih =>
    intro listed a w hC hfree hr hy H
    refine ⟨fun h => (by rw [h] at hr; cases hr), fun j hj => ?_⟩
    by_cases hji : j = i
    · subst hji; exact hy.goes hi hC ⟨fun _ => hC, H⟩
    · have h1 := H.2 j (ready_mono hj hji)
      obtain ⟨hjun, oj, hoj, hall⟩ := mem_ready.1 hj
      have hnot : ∀ e ∈ oj.after, Region.binds md e = true → e.on ≠ i := fun e he hb heq => by
        have h1 := hall e he hb
        have h0 := (mem_ready.1 hr).1
        rw [heq] at h1
        rcases Nat.lt_or_ge i listed.size with h' | h'
        · simp [h'] at h0 h1; rw [h0] at h1; cases h1
        · simp [Array.getElem?_eq_none h'] at h1
      have h2 := goesI_put hoj (hfree j oj hoj hji hjun hnot) (fun cs b => hsel i oi cs b hi) (fun cs b => hsel j oj cs b hoj) hy h1
      have hfree' : ∀ k ok, ops[k]? = some ok → k ≠ i → (listed.setIfInBounds j true).getD k true = false →
          (∀ e ∈ ok.after, Region.binds md e = true → e.on ≠ i) → oi.apart ops ok = true := fun k ok hk hki hun hno => by
        refine hfree k ok hk hki ?_ hno
        by_cases hjk : j = k
        · subst hjk; exact hjun
        · rw [getD_set_ne true hjk] at hun; exact hun
      have hjl : late j = false := by
        cases hl : late j with
        | false => rfl
        | true => exact absurd hj (hlate j hl listed (mem_ready.1 hr).1)
      refine goesI.mono (fun a' w' h3 => ⟨h3.2.1, ih (listed.setIfInBounds j true) a' w' (h3.2.1 hjl) hfree' (ready_mono hr (Ne.symm hji)) h3.1 ?_⟩) h2
      rw [Array.setIfInBounds_comm _ _ hji]
      exact h3.2.2

/-- the same for what does not look at the world -/
theorem firstLp {i : Nat} {oi : Oper} {v : Value} (hl : late i = true) (hi : ops[i]? = some oi) (hsel : ∀ (j : Nat) (o : Oper) cs b, ops[j]? = some o → o.op ≠ .select cs b) :
    ∀ (fuel : Nat) (listed : Array Bool) (a : Act) (w : World),
      (∀ j oj, ops[j]? = some oj → j ≠ i → listed.getD j true = false → (∀ e ∈ oj.after, Region.binds md e = true → e.on ≠ i) → oi.apart ops oj = true) →
      i ∈ Region.ready md ops listed → ReadC P ops (fun _ => True) oi v a →
      wpAnyL2 P md ops C late Q fuel (listed.setIfInBounds i true) (a.put oi.dst v) w → wpAnyL2 P md ops C late Q (fuel + 1) listed a w := by
  intro fuel
  induction fuel with
  | zero =>
    intro listed a w _ hr hy H
    refine ⟨fun h => (by rw [h] at hr; cases hr), fun j hj => ?_⟩
    by_cases hji : j = i
    · subst hji; exact hy.goes hi trivial ⟨fun h => (by rw [hl] at h; cases h), H⟩
    · have := ready_mono hj hji
      rw [H.1] at this
      cases this
  | succ fuel ih =>
    intro listed a w hfree hr hy H
    refine ⟨fun h => (by rw [h] at hr; cases hr), fun j hj => ?_⟩
    by_cases hji : j = i
    · subst hji; exact hy.goes hi trivial ⟨fun h => (by rw [hl] at h; cases h), H⟩
    · have h1 := H.2 j (ready_mono hj hji)
      obtain ⟨hjun, oj, hoj, hall⟩ := mem_ready.1 hj
      have hnot : ∀ e ∈ oj.after, Region.binds md e = true → e.on ≠ i := fun e he hb heq => by
        have h1 := hall e he hb
        have h0 := (mem_ready.1 hr).1
        rw [heq] at h1
        rcases Nat.lt_or_ge i listed.size with h' | h'
        · simp [h'] at h0 h1; rw [h0] at h1; cases h1
        · simp [Array.getElem?_eq_none h'] at h1
      have h2 := goesI_put hoj (hfree j oj hoj hji hjun hnot) (fun cs b => hsel i oi cs b hi) (fun cs b => hsel j oj cs b hoj) hy h1
      have hfree' : ∀ k ok, ops[k]? = some ok → k ≠ i → (listed.setIfInBounds j true).getD k true = false →
          (∀ e ∈ ok.after, Region.binds md e = true → e.on ≠ i) → oi.apart ops ok = true := fun k ok hk hki hun hno => by
        refine hfree k ok hk hki ?_ hno
        by_cases hjk : j = k
        · subst hjk; exact hjun
        · rw [getD_set_ne true hjk] at hun; exact hun
      refine goesI.mono (fun a' w' h3 => ⟨h3.2.1, ih (listed.setIfInBounds j true) a' w' hfree' (ready_mono hr (Ne.symm hji)) h3.1 ?_⟩) h2
      rw [Array.setIfInBounds_comm _ _ hji]
      exact h3.2.2

/-- what is late waits for a read -/
def lateB (md : Region.Mode) (ops : Array Oper) (late : Nat → Bool) (i : Nat) : Bool := (List.range ops.size).all fun j => !late j || Region.waitsFor md ops j i
theorem late_spec {i : Nat} (h : lateB md ops late i = true) : ∀ j, late j = true → ∀ listed : Array Bool, listed.getD i true = false → j ∉ Region.ready md ops listed := by
  intro j hj listed hun hr
  obtain ⟨_, oj, hoj, hall⟩ := mem_ready.1 hr
  unfold lateB at h
  have h1 := List.all_eq_true.1 h j (List.mem_range.2 (Array.getElem?_eq_some_iff.1 hoj).1)
  rw [hj] at h1
  simp only [Bool.not_true, Bool.false_or] at h1
  obtain ⟨o', ho', e, he, hb, hon⟩ := Region.waitsFor_spec h1
  have : o' = oj := Option.some.inj (ho'.symm.trans hoj)
  subst this
  have h2 := hall e he hb
  rw [hon, getD_both hun] at h2
  cases h2
/-- a read is taken first -/
theorem L.rd {f i : Nat} {o : Oper} {listed : Array Bool} {a : Act} {w : World} (hi : ops.toList[i]? = some o) (hb : (Region.noSelect ops && (Region.ready md ops listed).contains i && Region.free md ops listed i && lateB md ops late i) = true) (hC : C w) (hg : o.guard = none) {v : Value} (hy : ∀ W, C W → readW P o a W v)
    (h : wpAnyL2 P md ops C late Q f (listed.setIfInBounds i true) (a.put o.dst v) w) : wpAnyL2 P md ops C late Q (f + 1) listed a w := by
  rw [Array.getElem?_toList] at hi
  simp only [Bool.and_eq_true] at hb
  exact firstL (late_spec hb.2) hi (Region.noSelect_spec hb.1.1.1) f listed a w hC (Region.free_spec hi hb.1.2) (by simpa using hb.1.1.2) (.inl ⟨by simp [Region.wanted, hg], hy⟩) h
/-- a read behind what is late: it does not look at the world -/
theorem L.rdl {f i : Nat} {o : Oper} {listed : Array Bool} {a : Act} {w : World} (hi : ops.toList[i]? = some o) (hb : (Region.noSelect ops && (Region.ready md ops listed).contains i && Region.free md ops listed i && late i) = true) (hg : o.guard = none) {v : Value} (hy : ∀ W, readW P o a W v)
    (h : wpAnyL2 P md ops C late Q f (listed.setIfInBounds i true) (a.put o.dst v) w) : wpAnyL2 P md ops C late Q (f + 1) listed a w := by
  rw [Array.getElem?_toList] at hi
  simp only [Bool.and_eq_true] at hb
  exact firstLp hb.2 hi (Region.noSelect_spec hb.1.1.1) f listed a w (Region.free_spec hi hb.1.2) (by simpa using hb.1.1.2) (.inl ⟨by simp [Region.wanted, hg], fun W _ => hy W⟩) h
/-- one alone may come up -/
theorem L.one {f i : Nat} {o : Oper} {listed : Array Bool} {a : Act} {w : World} (hi : ops.toList[i]? = some o) (hb : decide (Region.ready md ops listed = [i]) = true) (hg : o.guard = none)
    (h : stepT P o a w (fun a' w' => (late i = false → C w') ∧ wpAnyL2 P md ops C late Q f (listed.setIfInBounds i true) a' w')) : wpAnyL2 P md ops C late Q (f + 1) listed a w := by
  rw [Array.getElem?_toList] at hi
  have hb := of_decide_eq_true hb
  refine ⟨fun h => (by rw [hb] at h; cases h), fun j hj => ?_⟩
  rw [hb] at hj
  obtain rfl : j = i := by simpa using hj
  unfold goesI
  simp only [hi]
  rw [if_pos (by simp [Region.wanted, hg])]
  exact h
/-- one of two may come up -/
theorem L.two {f i k : Nat} {o o' : Oper} {listed : Array Bool} {a : Act} {w : World} (hi : ops.toList[i]? = some o) (hk : ops.toList[k]? = some o') (hb : decide (Region.ready md ops listed = [i, k]) = true) (hg : o.guard = none) (hg' : o'.guard = none)
    (h : stepT P o a w (fun a' w' => (late i = false → C w') ∧ wpAnyL2 P md ops C late Q f (listed.setIfInBounds i true) a' w'))
    (h' : stepT P o' a w (fun a' w' => (late k = false → C w') ∧ wpAnyL2 P md ops C late Q f (listed.setIfInBounds k true) a' w')) : wpAnyL2 P md ops C late Q (f + 1) listed a w := by
  rw [Array.getElem?_toList] at hi hk
  have hb := of_decide_eq_true hb
  refine ⟨fun h => (by rw [hb] at h; cases h), fun j hj => ?_⟩
  rw [hb] at hj
  have hj' : j = i ∨ j = k := by simpa using hj
  unfold goesI
  rcases hj' with rfl | rfl
  · simp only [hi]
    rw [if_pos (by simp [Region.wanted, hg])]
    exact h
  · simp only [hk]
    rw [if_pos (by simp [Region.wanted, hg'])]
    exact h'
theorem L.done {f : Nat} {listed : Array Bool} {a : Act} {w : World} (hb : (Region.ready md ops listed).isEmpty = true) (h : Q .normal a w) : wpAnyL2 P md ops C late Q f listed a w := by
  have hb := List.isEmpty_iff.1 hb
  cases f with
  | zero => exact ⟨hb, h⟩
  | succ f => exact ⟨fun _ => h, fun i hi => by rw [hb] at hi; cases hi⟩
/-- the region: whatever order the tape picks -/
theorem wp_region_l {id : Nat} {a : Act} {w : World} {l : List Oper} (C : World → Prop) (late : Nat → Bool) (hm : P.follows .mixedOrders = true)
    (h : wpAnyL2 P .any l.toArray C late Q l.toArray.size (Array.replicate l.toArray.size false) a w.drew) : (Code.region id l.toArray true).wp P Q a w :=
  wp_region_any hm (wpAny_of_L _ _ _ _ h)
/-- append to a row of one's own -/
theorem stepT_append {P : Program} {o : Oper} {a : Act} {w : World} {K : Act → World → Prop}
    (s x : Operand) (t : TypeId) (hop : o.op = Op.call { callee := Callee.builtin Builtin.append, args := #[s, x], argTypes := #[t, t] })
    (base : Nat) (e : TypeId) (i : TypeInfo) (z : Value) (size bytes : Nat) (h1 : P.underlying t = some (.slice e)) (h2 : P.info? e = some i) (h3 : i.zero = some z) (h4 : i.size = size) (h5 : i.bytes = bytes) (h6 : z.cells.size = size) (h7 : 0 < size)
    (v : Value) (n : Nat) (xs : List Value) (hs : a.eval s = v) (hown : w.ownsRow base e size v n xs)
    (ad : Addr) (m c : Nat) (news : List Value) (hx : a.eval x = .slice (some ad) m c) (hn : news.length = m * size) (hc : ∀ j u, news[j]? = some u → w.cell? (ad.add j) = some u) (h1c : ∀ u ∈ news, u.oneCell' = true)
    (b1 : n + m ≤ maxLen) (b2 : (n + m) * bytes ≤ 140737488355328) (hb : base ≤ w.heap.size)
    (hK : ∀ v' w', w'.ownsRow base e size v' (n + m) (xs ++ news) → w.grownBy w' v.ownBlock → K (a.put o.dst v') w') : stepT P o a w K := by
  obtain ⟨v', w', hrun, r1, r2, _⟩ := run_append_own (P := P) w base t o.type e i z size bytes h1 h2 h3 h4 h5 h6 h7 v n xs hown ad m c news hn hc h1c b1 b2 hb
  unfold stepT
  simp [execOp, hop, resolve, invoke, builtin, hs, hx, hrun, Result.andThen]
  exact hK v' w' r1 r2
end
end Go.Proofs.YtndhbdbfjkmloaaDoor
