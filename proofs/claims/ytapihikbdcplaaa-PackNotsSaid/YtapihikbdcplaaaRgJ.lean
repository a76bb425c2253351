/- As RgI: what is made may hang on what has been done since; a store may come behind all. -/
import Derived.Test.YtapihikbdcplaaaRgI
namespace Go.Proofs.Ytapihikbdcplaaa

/-- of the first n: each makes something in a slot of its own, that is there -/
def headB (ops : Array Oper) (n size : Nat) : Bool := (List.range n).all fun i => match (ops[i]?).bind (·.dst) with
  | none => false
  | some d => decide (d < size) && (List.range n).all fun j => j == i || (ops[j]?).bind (·.dst) != some d
/-- what comes last waits for all -/
def lastB (md : Region.Mode) (ops : Array Oper) (n : Nat) : Bool := match ops[n]? with
  | none => n == ops.size
  | some o => ops.size == n + 1 && (List.range n).all fun i => o.after.any fun e => Region.binds md e && e.on == i

section
variable {P : Program} {md : Region.Mode} {ops : Array Oper} {Q : Exit → Act → World → Prop}
theorem head_spec {n size : Nat} (h : headB ops n size = true) {i : Nat} (hin : i < n) {o : Oper} (hi : ops[i]? = some o) : ∃ d, o.dst = some d ∧ d < size ∧ ∀ (j : Nat) (o' : Oper), j < n → ops[j]? = some o' → o'.dst = some d → j = i := by
  unfold headB at h
  rw [List.all_eq_true] at h
  have h1 := h i (List.mem_range.2 hin)
  rw [hi] at h1
  simp only [Option.bind_some] at h1
  cases hd : o.dst with
  | none => rw [hd] at h1; cases h1
  | some d =>
    rw [hd] at h1
    simp only [Bool.and_eq_true, decide_eq_true_eq, List.all_eq_true] at h1
    refine ⟨d, rfl, h1.1, fun j o' hjn hj hd' => ?_⟩
    have h2 := h1.2 j (List.mem_range.2 hjn)
    rw [hj] at h2
    simp only [Option.bind_some, hd', Bool.or_eq_true, beq_iff_eq, bne_self_eq_false, Bool.false_eq_true, or_false] at h2
    exact h2
theorem wpAny_done' {listed : Array Bool} (hr : Region.ready md ops listed = []) {a : Act} {w : World} (hQ : Q .normal a w) : ∀ f, wpAny P md ops Q f listed a w
  | 0 => ⟨hr, hQ⟩
  | f + 1 => ⟨fun _ => hQ, fun i hi => by rw [hr] at hi; cases hi⟩
theorem ready_none {listed : Array Bool} (h : ∀ i, i < ops.size → listed.getD i true = true) : Region.ready md ops listed = [] := by
  unfold Region.ready
  rw [List.filter_eq_nil_iff]
  intro i hi
  rw [h i (List.mem_range.1 hi)]
  simp
/-- slots that none of the first n makes are as they were -/
def SameN (ops : Array Oper) (n : Nat) (a0 a : Act) : Prop := a.defers = a0.defers ∧ a.tmps.size = a0.tmps.size ∧ ∀ d : Nat, (∀ (j : Nat) (o : Oper), j < n → ops[j]? = some o → o.dst ≠ some d) → a.tmps[d]? = a0.tmps[d]?
/-- one operation, told what has been done -/
def OpMakesP (P : Program) (md : Region.Mode) (ops : Array Oper) (Q : Exit → Act → World → Prop) (C : World → Prop) (M : Array Bool → Nat → Value → World → Prop) (n : Nat) (a0 : Act) (i : Nat) (o : Oper) : Prop :=
  ∀ (listed : Array Bool) (a : Act) (w : World), listed.size = ops.size → listed.getD i false = false → C w → SameN ops n a0 a → (∀ e ∈ o.after, Region.binds md e = true → listed.getD e.on false = true ∧ MadeAt ops (M listed) e.on a w) →
    Region.wanted o (yielded ops a.tmps) = true ∧ ∀ K : Act → World → Prop, (∀ v w', M (listed.setIfInBounds i true) i v w' → C w' → (∀ j u, listed.getD j false = true → M listed j u w → M (listed.setIfInBounds i true) j u w') → K (a.put o.dst v) w') → o.wp P a w K Q

theorem wpAny_invP {C : World → Prop} {M : Array Bool → Nat → Value → World → Prop} {a0 : Act} {n : Nat} (hdep : depsB ops = true) (hd : headB ops n a0.tmps.size = true) (hlB : lastB md ops n = true)
    (hstep : ∀ (i : Nat) (o : Oper), i < n → ops[i]? = some o → OpMakesP P md ops Q C M n a0 i o)
    (hfin : ∀ listed a w, C w → SameN ops n a0 a → (∀ i, i < n → listed.getD i false = true) → (∀ i, i < n → MadeAt ops (M listed) i a w) → match ops[n]? with
      | none => Q .normal a w
      | some o => Region.wanted o (yielded ops a.tmps) = true ∧ o.wp P a w (fun a' w' => Q .normal a' w') Q) :
    ∀ (f : Nat) (listed : Array Bool) (a : Act) (w : World), listed.size = ops.size → (∀ i, n ≤ i → listed.getD i false = false) → C w → SameN ops n a0 a → (∀ j, listed.getD j false = true → MadeAt ops (M listed) j a w) →
      ((listed.toList.filter (· == false)).length ≤ f) → wpAny P md ops Q f listed a w := by
  have key : ∀ (l : List Bool) (i : Nat), l[i]? = some false → ((l.set i true).filter (· == false)).length + 1 = (l.filter (· == false)).length := by
    intro l
    induction l with
    | nil => intro i h; simp at h
    | cons x l ihl =>
      intro i h
      cases i with
      | zero =>
        simp only [List.getElem?_cons_zero, Option.some.injEq] at h
        subst h
        simp
      | succ i =>
        simp only [List.getElem?_cons_succ] at h
        have := ihl i h
        simp only [List.set_cons_succ, List.filter_cons]
        cases x <;> simp_all <;> omega
  have hsz : (ops[n]? = none ∧ n = ops.size) ∨ (∃ o, ops[n]? = some o ∧ ops.size = n + 1 ∧ ∀ i, i < n → ∃ e ∈ o.after, Region.binds md e = true ∧ e.on = i) := by
    unfold lastB at hlB
    cases ho : ops[n]? with
    | none => rw [ho] at hlB; exact .inl ⟨rfl, by simpa using hlB⟩
    | some o =>
      rw [ho] at hlB
      simp only [Bool.and_eq_true, beq_iff_eq, List.all_eq_true, List.mem_range] at hlB
      refine .inr ⟨o, rfl, hlB.1, fun i hi => ?_⟩
      obtain ⟨e, he, hb⟩ := Array.any_eq_true'.1 (hlB.2 i hi)
      simp only [Bool.and_eq_true, beq_iff_eq] at hb
      exact ⟨e, he, hb.1, hb.2⟩
  intro f
  induction f with
  | zero =>
    intro listed a w hs hlast hC hS hM hf
    have hall : ∀ i, i < ops.size → listed.getD i false = true := by
      intro i hi
      have hi' : i < listed.size := by omega
      cases hb : listed[i] with
      | true => simp [hi', hb]
      | false =>
        exfalso
        have : false ∈ listed.toList.filter (· == false) := List.mem_filter.2 ⟨by rw [← hb]; exact Array.getElem_mem_toList hi', rfl⟩
        have := List.length_pos_of_mem this
        omega
    rcases hsz with ⟨h1, h2⟩ | ⟨o, h1, h2, _⟩
    · have := hfin listed a w hC hS (fun i hi => hall i (by omega)) (fun i hi => hM i (hall i (by omega)))
      rw [h1] at this
      refine ⟨ready_none fun i hi => ?_, this⟩
      have h3 := hall i hi
      have hi' : i < listed.size := by omega
      simp [hi'] at h3 ⊢
      exact h3
    · have h3 := hall n (by omega)
      rw [hlast n (Nat.le_refl n)] at h3
      cases h3
  | succ f ih =>
    intro listed a w hs hlast hC hS hM hf
    refine ⟨fun hr => ?_, fun i hi => ?_⟩
    · have hall := all_listed hdep hs hr
      rcases hsz with ⟨h1, h2⟩ | ⟨o, h1, h2, _⟩
      · have := hfin listed a w hC hS (fun i hi => hall i (by omega)) (fun i hi => hM i (hall i (by omega)))
        rw [h1] at this
        exact this
      · have h3 := hall n (by omega)
        rw [hlast n (Nat.le_refl n)] at h3
        cases h3
    · obtain ⟨hun, o, ho, hall⟩ := mem_ready.1 hi
      have hio : i < ops.size := (Array.getElem?_eq_some_iff.1 ho).1
      have hil : i < listed.size := by omega
      have hun' : listed[i] = false := by simpa [hil] using hun
      have hunf : listed.getD i false = false := by simp [hil, hun']
      by_cases hin : i < n
      · obtain ⟨d, hdst, hdn, hdu⟩ := head_spec hd hin ho
        obtain ⟨hw, hK⟩ := hstep i o hin ho listed a w hs hunf hC hS fun e he hb => ⟨hall e he hb, hM _ (hall e he hb)⟩
        unfold wpOp
        rw [ho]
        simp only
        rw [if_pos hw]
        refine .inl (hK _ fun v w' hv hC' hst => ih _ _ _ (by simpa using hs) (fun k hk => by rw [getD_set_ne false (by omega)]; exact hlast k hk) hC' ?_ ?_ ?_)
        · rw [hdst]
          refine ⟨hS.1, by show (a.tmps.setIfInBounds d v).size = _; rw [Array.size_setIfInBounds]; exact hS.2.1, fun d' hd' => ?_⟩
          have hne : d ≠ d' := fun e => hd' i o hin ho (by rw [hdst, e])
          show (a.tmps.setIfInBounds d v)[d']? = _
          rw [Array.getElem?_setIfInBounds_ne hne]
          exact hS.2.2 d' hd'
        · intro j hj
          by_cases hij : i = j
          · subst hij
            refine ⟨o, d, v, ho, hdst, ?_, hv⟩
            rw [hdst]
            show (a.tmps.setIfInBounds d v)[d]? = _
            rw [Array.getElem?_setIfInBounds_self_of_lt (by rw [hS.2.1]; exact hdn)]
          · have hj' : listed.getD j false = true := by rw [getD_set_ne false hij] at hj; exact hj
            have hjn : j < n := by
              rcases Nat.lt_or_ge j n with h | h
              · exact h
              · rw [hlast j h] at hj'; cases hj'
            obtain ⟨o', d', u, ho', hd', hu, hm⟩ := hM j hj'
            refine ⟨o', d', u, ho', hd', ?_, hst j u hj' hm⟩
            rw [hdst]
            have hne : d ≠ d' := fun e => hij (hdu j o' hjn ho' (by rw [hd', e])).symm
            show (a.tmps.setIfInBounds d v)[d']? = _
            rw [Array.getElem?_setIfInBounds_ne hne]
            exact hu
        · have hk := key listed.toList i (by rw [Array.getElem?_toList, Array.getElem?_eq_getElem hil, hun'])
          have hts : (listed.setIfInBounds i true).toList = listed.toList.set i true := by simp
          rw [hts]
          omega
      · rcases hsz with ⟨h1, h2⟩ | ⟨ol, h1, h2, h3⟩
        · omega
        · obtain rfl : i = n := by omega
          rw [ho] at h1
          injection h1 with h1
          subst h1
          have hl : ∀ k, k < i → listed.getD k false = true := fun k hk => by
            obtain ⟨e, he, hb, hon⟩ := h3 k hk
            rw [← hon]
            exact hall e he hb
          have := hfin listed a w hC hS hl fun k hk => hM k (hl k hk)
          rw [ho] at this
          unfold wpOp
          rw [ho]
          simp only
          rw [if_pos this.1]
          refine .inl (Oper.wp_mono ?_ this.2)
          intro a' w' hQ
          refine wpAny_done' (ready_none fun k hk => ?_) hQ f
          by_cases hki : i = k
          · subst hki
            simp [hil]
          · have h4 := hl k (by omega)
            have hk' : k < listed.size := by omega
            simp [hk'] at h4
            rw [getD_set_ne true hki]
            simp [hk', h4]
/-- whatever the order, all is made; then what comes last -/
theorem wp_region_invP {id : Nat} {a : Act} {w : World} (C : World → Prop) (M : Array Bool → Nat → Value → World → Prop) (n : Nat) (hm : P.follows .mixedOrders = true) (hdep : depsB ops = true) (hd : headB ops n a.tmps.size = true) (hlB : lastB .any ops n = true) (hC : C w.drew)
    (hstep : ∀ (i : Nat) (o : Oper), i < n → ops[i]? = some o → OpMakesP P .any ops Q C M n a i o)
    (hfin : ∀ listed a' w', C w' → SameN ops n a a' → (∀ i, i < n → listed.getD i false = true) → (∀ i, i < n → MadeAt ops (M listed) i a' w') → match ops[n]? with
      | none => Q .normal a' w'
      | some o => Region.wanted o (yielded ops a'.tmps) = true ∧ o.wp P a' w' (fun a'' w'' => Q .normal a'' w'') Q) : (Code.region id ops true).wp P Q a w :=
  wp_region_any hm (wpAny_invP hdep hd hlB hstep hfin _ _ _ _ (by simp) (fun i _ => by rw [getD_replicate_false]) hC ⟨rfl, rfl, fun _ _ => rfl⟩ (fun j hj => by rw [getD_replicate_false] at hj; cases hj) (by
    refine Nat.le_trans (List.length_filter_le _ _) ?_
    simp))
/-- the same, where nothing comes behind -/
theorem wp_region_all {id : Nat} {a : Act} {w : World} (C : World → Prop) (M : Array Bool → Nat → Value → World → Prop) (n : Nat) (hn : ops.size = n) (hm : P.follows .mixedOrders = true) (hdep : depsB ops = true) (hd : headB ops n a.tmps.size = true) (hlB : lastB .any ops n = true) (hC : C w.drew)
    (hstep : ∀ (i : Nat) (o : Oper), i < n → ops[i]? = some o → OpMakesP P .any ops Q C M n a i o)
    (hfin : ∀ listed a' w', C w' → SameN ops n a a' → (∀ i, i < n → listed.getD i false = true) → (∀ i, i < n → MadeAt ops (M listed) i a' w') → Q .normal a' w') : (Code.region id ops true).wp P Q a w :=
  wp_region_invP C M n hm hdep hd hlB hC hstep fun listed a' w' h1 h2 h3 h4 => by
    rw [show ops[n]? = none from Array.getElem?_eq_none (by omega)]
    exact hfin listed a' w' h1 h2 h3 h4
end
end Go.Proofs.Ytapihikbdcplaaa
