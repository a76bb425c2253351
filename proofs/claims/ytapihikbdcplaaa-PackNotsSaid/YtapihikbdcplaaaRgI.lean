/- A region that draws its order: what each operation makes is told by a predicate; each operation is looked at once, whatever the order. -/
import Derived.Test.YtapihikbdcplaaaGC
namespace Go.Proofs.Ytapihikbdcplaaa

/-- operation j has made what it must -/
def MadeAt (ops : Array Oper) (M : Nat → Value → World → Prop) (j : Nat) (a : Act) (w : World) : Prop := ∃ o d v, ops[j]? = some o ∧ o.dst = some d ∧ a.tmps[d]? = some v ∧ M j v w
/-- slots that no operation makes are as they were -/
def SameOut (ops : Array Oper) (a0 a : Act) : Prop := a.defers = a0.defers ∧ a.tmps.size = a0.tmps.size ∧ ∀ d : Nat, (∀ (j : Nat) (o : Oper), ops[j]? = some o → o.dst ≠ some d) → a.tmps[d]? = a0.tmps[d]?
/-- all operations make something, each in a slot of its own, that is there -/
def dstsB (ops : Array Oper) (n : Nat) : Bool := (List.range ops.size).all fun i => match (ops[i]?).bind (·.dst) with
  | none => false
  | some d => decide (d < n) && (List.range ops.size).all fun j => j == i || (ops[j]?).bind (·.dst) != some d

/-- each waits for earlier ones alone -/
def depsB (ops : Array Oper) : Bool := (List.range ops.size).all fun i => match ops[i]? with
  | none => true
  | some o => o.after.all fun e => decide (e.on < i)

section
variable {P : Program} {md : Region.Mode} {ops : Array Oper} {Q : Exit → Act → World → Prop}
theorem all_listed (h : depsB ops = true) {listed : Array Bool} (hs : listed.size = ops.size) (hr : Region.ready md ops listed = []) : ∀ i, i < ops.size → listed.getD i false = true := by
  intro i
  induction i using Nat.strongRecOn with
  | _ i ih =>
    intro hi
    cases hb : listed.getD i false with
    | true => rfl
    | false =>
      exfalso
      have hm : i ∈ Region.ready md ops listed := by
        refine mem_ready.2 ⟨?_, ops[i], Array.getElem?_eq_getElem hi, fun e he _ => ?_⟩
        · have hi' : i < listed.size := by omega
          simp [hi'] at hb ⊢
          exact hb
        · unfold depsB at h
          rw [List.all_eq_true] at h
          have h1 := h i (List.mem_range.2 hi)
          rw [Array.getElem?_eq_getElem hi] at h1
          simp only at h1
          have h2 := Array.all_eq_true_iff_forall_mem.1 h1 e he
          have h3 : e.on < i := by simpa using h2
          exact ih _ h3 (by omega)
      rw [hr] at hm
      cases hm
theorem dsts_spec {n : Nat} (h : dstsB ops n = true) {i : Nat} {o : Oper} (hi : ops[i]? = some o) : ∃ d, o.dst = some d ∧ d < n ∧ ∀ (j : Nat) (o' : Oper), ops[j]? = some o' → o'.dst = some d → j = i := by
  unfold dstsB at h
  rw [List.all_eq_true] at h
  have h1 := h i (List.mem_range.2 (Array.getElem?_eq_some_iff.1 hi).1)
  rw [hi] at h1
  simp only [Option.bind_some] at h1
  cases hd : o.dst with
  | none => rw [hd] at h1; cases h1
  | some d =>
    rw [hd] at h1
    simp only [Bool.and_eq_true, decide_eq_true_eq, List.all_eq_true] at h1
    refine ⟨d, rfl, h1.1, fun j o' hj hd' => ?_⟩
    have h2 := h1.2 j (List.mem_range.2 (Array.getElem?_eq_some_iff.1 hj).1)
    rw [hj] at h2
    simp only [Option.bind_some, hd', Bool.or_eq_true, beq_iff_eq, bne_self_eq_false, Bool.false_eq_true, or_false] at h2
    exact h2

/-- one operation: with what it waits for it makes what it must, whatever else has been done -/
def OpMakes (P : Program) (md : Region.Mode) (ops : Array Oper) (Q : Exit → Act → World → Prop) (C : World → Prop) (M : Nat → Value → World → Prop) (a0 : Act) (i : Nat) (o : Oper) : Prop :=
  ∀ (a : Act) (w : World), C w → SameOut ops a0 a → (∀ e ∈ o.after, Region.binds md e = true → MadeAt ops M e.on a w) →
    Region.wanted o (yielded ops a.tmps) = true ∧ ∀ K : Act → World → Prop, (∀ v w', M i v w' → C w' → (∀ j u, M j u w → M j u w') → K (a.put o.dst v) w') → o.wp P a w K Q

theorem wpAny_inv {C : World → Prop} {M : Nat → Value → World → Prop} {a0 : Act} (hdep : depsB ops = true) (hd : dstsB ops a0.tmps.size = true) (hstep : ∀ (i : Nat) (o : Oper), ops[i]? = some o → OpMakes P md ops Q C M a0 i o)
    (hfin : ∀ a w, C w → SameOut ops a0 a → (∀ i, i < ops.size → MadeAt ops M i a w) → Q .normal a w) :
    ∀ (f : Nat) (listed : Array Bool) (a : Act) (w : World), listed.size = ops.size → C w → SameOut ops a0 a → (∀ j, listed.getD j false = true → MadeAt ops M j a w) →
      ((listed.toList.filter (· == false)).length ≤ f) → wpAny P md ops Q f listed a w := by
  intro f
  induction f with
  | zero =>
    intro listed a w hs hC hS hM hf
    have hall : ∀ i, i < ops.size → listed.getD i false = true := by
      intro i hi
      have hi' : i < listed.size := by omega
      cases hb : listed[i] with
      | true => simp [hi', hb]
      | false =>
        exfalso
        have : false ∈ listed.toList.filter (· == false) := List.mem_filter.2 ⟨by rw [← hb]; exact Array.getElem_mem_toList hi', rfl⟩
        have := List.length_pos_of_mem this
        omega
    have hr : Region.ready md ops listed = [] := by
      unfold Region.ready
      rw [List.filter_eq_nil_iff]
      intro i hi
      have := hall i (List.mem_range.1 hi)
      have h2 : listed.getD i true = true := by
        have hi' : i < listed.size := by have := List.mem_range.1 hi; omega
        simp [hi'] at this ⊢
        exact this
      rw [h2]
      simp
    exact ⟨hr, hfin a w hC hS fun i hi => hM i (hall i hi)⟩
  | succ f ih =>
    intro listed a w hs hC hS hM hf
    refine ⟨fun hr => hfin a w hC hS fun i hi => hM i (all_listed hdep hs hr i hi), fun i hi => ?_⟩
    · obtain ⟨hun, o, ho, hall⟩ := mem_ready.1 hi
      have hil : i < listed.size := by
        have := (Array.getElem?_eq_some_iff.1 ho).1
        omega
      obtain ⟨d, hdst, hdn, hdu⟩ := dsts_spec hd ho
      obtain ⟨hw, hK⟩ := hstep i o ho a w hC hS fun e he hb => hM _ (hall e he hb)
      unfold wpOp
      rw [ho]
      simp only
      rw [if_pos hw]
      refine .inl (hK _ fun v w' hv hC' hst => ih _ _ _ (by simpa using hs) hC' ?_ ?_ ?_)
      · rw [hdst]
        refine ⟨hS.1, by show (a.tmps.setIfInBounds d v).size = _; rw [Array.size_setIfInBounds]; exact hS.2.1, fun d' hd' => ?_⟩
        have hne : d ≠ d' := fun e => hd' i o ho (by rw [hdst, e])
        show (a.tmps.setIfInBounds d v)[d']? = _
        rw [Array.getElem?_setIfInBounds_ne hne]
        exact hS.2.2 d' hd'
      · intro j hj
        by_cases hij : i = j
        · subst hij
          refine ⟨o, d, v, ho, hdst, ?_, hv⟩
          rw [hdst]
          show (a.tmps.setIfInBounds d v)[d]? = _
          rw [Array.getElem?_setIfInBounds_self_of_lt (by rw [hS.2.1]; exact hdn)]
        · obtain ⟨o', d', u, ho', hd', hu, hm⟩ := hM j (by rw [getD_set_ne false hij] at hj; exact hj)
          refine ⟨o', d', u, ho', hd', ?_, hst j u hm⟩
          rw [hdst]
          have hne : d ≠ d' := fun e => hij (hdu j o' ho' (by rw [hd', e])).symm
          show (a.tmps.setIfInBounds d v)[d']? = _
          rw [Array.getElem?_setIfInBounds_ne hne]
          exact hu
      · have hun' : listed[i] = false := by simpa [hil] using hun
        have key : ∀ (l : List Bool) (i : Nat), l[i]? = some false → ((l.set i true).filter (· == false)).length + 1 = (l.filter (· == false)).length := by
          intro l
          induction l with
          | nil => intro i h; simp at h
          | cons x l ihl =>
            intro i h
            cases i with
            | zero =>
              simp only [List.getElem?_cons_zero, Option.some.injEq] at h
              subst h
              simp
            | succ i =>
              simp only [List.getElem?_cons_succ] at h
              have := ihl i h
              simp only [List.set_cons_succ, List.filter_cons]
              cases x <;> simp_all <;> omega
        have hk := key listed.toList i (by rw [Array.getElem?_toList, Array.getElem?_eq_getElem hil, hun'])
        have hts : (listed.setIfInBounds i true).toList = listed.toList.set i true := by simp
        rw [hts]
        omega
end

section
variable {P : Program} {ops : Array Oper} {Q : Exit → Act → World → Prop}
/-- whatever the order, all is made -/
theorem wp_region_inv {id : Nat} {a : Act} {w : World} (C : World → Prop) (M : Nat → Value → World → Prop) (hm : P.follows .mixedOrders = true) (hd : dstsB ops a.tmps.size = true) (hC : C w.drew)
    (hdep : depsB ops = true)
    (hstep : ∀ (i : Nat) (o : Oper), ops[i]? = some o → OpMakes P .any ops Q C M a i o)
    (hfin : ∀ a' w', C w' → SameOut ops a a' → (∀ i, i < ops.size → MadeAt ops M i a' w') → Q .normal a' w') : (Code.region id ops true).wp P Q a w :=
  wp_region_any hm (wpAny_inv hdep hd hstep hfin _ _ _ _ (by simp) hC ⟨rfl, rfl, fun _ _ => rfl⟩ (fun j hj => by rw [getD_replicate_false] at hj; cases hj) (by
    refine Nat.le_trans (List.length_filter_le _ _) ?_
    simp))
end
end Go.Proofs.Ytapihikbdcplaaa
