/- As RgJ: a chain of operations comes behind all. -/
import Derived.Test.YtapihikbdcplaaaRgJ
namespace Go.Proofs.Ytapihikbdcplaaa

/-- the operations from n on: the first waits for all, each other for the one ahead -/
def tailB (md : Region.Mode) (ops : Array Oper) (n : Nat) : Bool := (List.range ops.size).all fun t => decide (t < n) || match ops[t]? with
  | none => true
  | some o => decide (t = n) || o.after.any fun e => Region.binds md e && e.on == t - 1
/-- each of the first n is waited for by a later one, up to the one at n -/
def waitedB (md : Region.Mode) (ops : Array Oper) (n : Nat) : Bool := (List.range n).all fun i => (List.range (n + 1)).any fun j => decide (i < j) && match ops[j]? with
  | none => false
  | some o => o.after.any fun e => Region.binds md e && e.on == i
/-- what is listed has all it waits for listed -/
def ClosedL (md : Region.Mode) (ops : Array Oper) (listed : Array Bool) : Prop := ∀ j o, ops[j]? = some o → listed.getD j false = true → ∀ e ∈ o.after, Region.binds md e = true → listed.getD e.on false = true
theorem waited_all {md : Region.Mode} {ops : Array Oper} {n : Nat} (h : waitedB md ops n = true) {listed : Array Bool} (hc : ClosedL md ops listed) {o : Oper} (ho : ops[n]? = some o) (hall : ∀ e ∈ o.after, Region.binds md e = true → listed.getD e.on false = true) : ∀ d k, k < n → n - k = d → listed.getD k false = true := by
  intro d
  induction d using Nat.strongRecOn with
  | ind d ih =>
    intro k hk hd
    unfold waitedB at h
    rw [List.all_eq_true] at h
    obtain ⟨j, hj, hj2⟩ := List.any_eq_true.1 (h k (List.mem_range.2 hk))
    have hjn := List.mem_range.1 hj
    simp only [Bool.and_eq_true, decide_eq_true_eq] at hj2
    obtain ⟨hkj, hj3⟩ := hj2
    cases hoj : ops[j]? with
    | none => rw [hoj] at hj3; cases hj3
    | some o' =>
      rw [hoj] at hj3
      obtain ⟨e, he, hb⟩ := Array.any_eq_true'.1 hj3
      simp only [Bool.and_eq_true, beq_iff_eq] at hb
      by_cases hjn' : j = n
      · subst hjn'
        rw [ho] at hoj
        injection hoj with hoj
        subst hoj
        have := hall e he hb.1
        rwa [hb.2] at this
      · have h1 := ih (n - j) (by omega) j (by omega) rfl
        have := hc j o' hoj h1 e he hb.1
        rwa [hb.2] at this
/-- the first n are done, no other -/
def doneN (size n : Nat) : Array Bool := Array.replicate n true ++ Array.replicate (size - n) false

section
variable {P : Program} {md : Region.Mode} {ops : Array Oper} {Q : Exit → Act → World → Prop}
/-- all that is made stands so to each other -/
def PairsAt (ops : Array Oper) (R : Nat → Value → Nat → Value → Prop) (listed : Array Bool) (a : Act) : Prop := ∀ (i j : Nat) (oi oj : Oper) (di dj : Nat) (v u : Value), i ≠ j → listed.getD i false = true → listed.getD j false = true → ops[i]? = some oi → ops[j]? = some oj → oi.dst = some di → oj.dst = some dj → a.tmps[di]? = some v → a.tmps[dj]? = some u → R i v j u
/-- u lies where the operation j puts what it makes -/
def LiesAt (ops : Array Oper) (j : Nat) (u : Value) (a : Act) : Prop := ∃ o d, ops[j]? = some o ∧ o.dst = some d ∧ a.tmps[d]? = some u
/-- one operation, told what has been done; R: how what is made stands to what else is made -/
def OpMakesR (P : Program) (md : Region.Mode) (ops : Array Oper) (Q : Exit → Act → World → Prop) (C : World → Prop) (M : Array Bool → Nat → Value → World → Prop) (R : Nat → Value → Nat → Value → Prop) (n : Nat) (a0 : Act) (i : Nat) (o : Oper) : Prop :=
  ∀ (listed : Array Bool) (a : Act) (w : World), listed.size = ops.size → listed.getD i false = false → C w → SameN ops n a0 a → (∀ e ∈ o.after, Region.binds md e = true → listed.getD e.on false = true ∧ MadeAt ops (M listed) e.on a w) → PairsAt ops R listed a →
    Region.wanted o (yielded ops a.tmps) = true ∧ ∀ K : Act → World → Prop, (∀ v w', M (listed.setIfInBounds i true) i v w' → C w' → (∀ j u, listed.getD j false = true → M listed j u w → M (listed.setIfInBounds i true) j u w') → (∀ j u, j ≠ i → listed.getD j false = true → LiesAt ops j u a → M listed j u w → R i v j u ∧ R j u i v) → K (a.put o.dst v) w') → o.wp P a w K Q
theorem wpAny_invT {l : List Oper} {C : World → Prop} {M : Array Bool → Nat → Value → World → Prop} {R : Nat → Value → Nat → Value → Prop} {a0 : Act} {n : Nat} (hnl : n ≤ l.toArray.size) (hdep : depsB l.toArray = true) (hd : headB l.toArray n a0.tmps.size = true) (htB : tailB md l.toArray n = true) (hwB : waitedB md l.toArray n = true)
    (hseq : Region.seqB md l.toArray (l.toArray.size - n) n (doneN l.toArray.size n) = true)
    (hstep : ∀ (i : Nat) (o : Oper), i < n → l.toArray[i]? = some o → OpMakesR P md l.toArray Q C M R n a0 i o)
    (hfin : ∀ listed a w, C w → SameN l.toArray n a0 a → (∀ i, i < n → listed.getD i false = true) → (∀ i, i < n → MadeAt l.toArray (M listed) i a w) → PairsAt l.toArray R listed a → wpList P l.toArray Q (l.drop n) a w) :
    ∀ (f : Nat) (listed : Array Bool) (a : Act) (w : World), listed.size = l.toArray.size → (∀ i, n ≤ i → listed.getD i false = false) → ClosedL md l.toArray listed → C w → SameN l.toArray n a0 a → (∀ j, listed.getD j false = true → MadeAt l.toArray (M listed) j a w) → PairsAt l.toArray R listed a →
      (((listed.toList.take n).filter (· == false)).length = f) → wpAny P md l.toArray Q (f + (l.toArray.size - n)) listed a w := by
  have key : ∀ (l : List Bool) (i n : Nat), i < n → l[i]? = some false → (((l.set i true).take n).filter (· == false)).length + 1 = ((l.take n).filter (· == false)).length := by
    intro l
    induction l with
    | nil => intro i n _ h; simp at h
    | cons x l ihl =>
      intro i n hin h
      cases n with
      | zero => omega
      | succ n =>
        cases i with
        | zero =>
          simp only [List.getElem?_cons_zero, Option.some.injEq] at h
          subst h
          simp
        | succ i =>
          simp only [List.getElem?_cons_succ] at h
          have := ihl i n (by omega) h
          simp only [List.set_cons_succ, List.take_succ_cons, List.filter_cons]
          cases x <;> simp_all <;> omega
  intro f
  induction f with
  | zero =>
    intro listed a w hs hlast hcl hC hS hM hR hf
    have hall : ∀ i, i < n → listed.getD i false = true := by
      intro i hi
      have hi' : i < listed.size := by omega
      cases hb : listed[i] with
      | true => simp [hi', hb]
      | false =>
        exfalso
        have hm : false ∈ (listed.toList.take n).filter (· == false) := by
          refine List.mem_filter.2 ⟨?_, rfl⟩
          rw [List.mem_iff_getElem?]
          exact ⟨i, by rw [List.getElem?_take, if_pos hi, Array.getElem?_toList, Array.getElem?_eq_getElem hi', hb]⟩
        have := List.length_pos_of_mem hm
        omega
    have he : listed = doneN l.toArray.size n := by
      apply Array.ext_getElem?
      intro i
      unfold doneN
      rw [Array.getElem?_append]
      by_cases hi : i < n
      · have h1 := hall i hi
        have hi' : i < listed.size := by omega
        rw [if_pos (by simpa using hi)]
        simp [hi', hi] at h1 ⊢
        exact h1
      · rw [if_neg (by simpa using hi)]
        by_cases hi' : i < listed.size
        · have h1 := hlast i (by omega)
          have hi2 : i - n < l.toArray.size - n := by omega
          simp [hi'] at h1
          rw [Array.getElem?_eq_getElem hi', h1]
          simp only [Array.size_replicate]
          rw [Array.getElem?_replicate, if_pos hi2]
        · rw [Array.getElem?_eq_none (by omega), Array.getElem?_eq_none (by simp; simp at hs; omega)]
    have hq := hfin listed a w hC hS hall (fun i hi => hM i (hall i hi)) hR
    rw [Nat.zero_add]
    have := wpAny_of_seq (md := md) (P := P) (ops := l.toArray) (Q' := Q) (l.drop n) n listed a w (fun j => by simp [List.getElem?_drop]) (by
      have hdl : (l.drop n).length = l.toArray.size - n := by simp
      rw [hdl, he]
      exact hseq) hq
    have hdl : (l.drop n).length = l.toArray.size - n := by simp
    rwa [hdl] at this
  | succ f ih =>
    intro listed a w hs hlast hcl hC hS hM hR hf
    have hun0 : ∃ k, k < n ∧ listed.getD k false = false := by
      obtain ⟨x, hx⟩ := List.exists_mem_of_length_pos (show 0 < ((listed.toList.take n).filter (· == false)).length by omega)
      obtain ⟨hx1, hx2⟩ := List.mem_filter.1 hx
      obtain ⟨k, hk⟩ := List.getElem?_of_mem hx1
      rw [List.getElem?_take] at hk
      split at hk
      · rename_i hkn
        have hxf : x = false := by simpa using hx2
        subst hxf
        rw [Array.getElem?_toList] at hk
        exact ⟨k, hkn, by simp [hk]⟩
      · cases hk
    obtain ⟨k0, hk0, hk0f⟩ := hun0
    rw [show f + 1 + (l.toArray.size - n) = (f + (l.toArray.size - n)) + 1 by omega]
    refine ⟨fun hr => ?_, fun i hi => ?_⟩
    · have := all_listed hdep hs hr k0 (by omega)
      rw [hk0f] at this
      cases this
    · obtain ⟨hun, o, ho, hall⟩ := mem_ready.1 hi
      have hio : i < l.toArray.size := (Array.getElem?_eq_some_iff.1 ho).1
      have hil : i < listed.size := by omega
      have hun' : listed[i] = false := by simpa [hil] using hun
      have hunf : listed.getD i false = false := by simp [hil, hun']
      have hin : i < n := by
        rcases Nat.lt_or_ge i n with h | h
        · exact h
        · exfalso
          unfold tailB at htB
          rw [List.all_eq_true] at htB
          have h1 := htB i (List.mem_range.2 hio)
          rw [ho] at h1
          simp only [Bool.or_eq_true, decide_eq_true_eq] at h1
          rcases h1 with h1 | h1
          · omega
          · by_cases hie : i = n
            · subst hie
              have := waited_all hwB hcl ho hall _ k0 hk0 rfl
              rw [hk0f] at this
              cases this
            · have h1 := h1.resolve_left hie
              obtain ⟨e, he, hb⟩ := Array.any_eq_true'.1 h1
              simp only [Bool.and_eq_true, beq_iff_eq] at hb
              have := hall e he hb.1
              rw [hb.2, hlast (i - 1) (by omega)] at this
              cases this
      obtain ⟨d, hdst, hdn, hdu⟩ := head_spec hd hin ho
      obtain ⟨hw, hK⟩ := hstep i o hin ho listed a w hs hunf hC hS (fun e he hb => ⟨hall e he hb, hM _ (hall e he hb)⟩) hR
      unfold wpOp
      rw [ho]
      simp only
      rw [if_pos hw]
      refine .inl (hK _ fun v w' hv hC' hst hrr => ih _ _ _ (by simpa using hs) (fun k hk => by rw [getD_set_ne false (by omega)]; exact hlast k hk) ?_ hC' ?_ ?_ ?_ ?_)
      · intro j oj hoj hj e he hb
        by_cases hie : i = e.on
        · subst hie
          simp [hil]
        rw [getD_set_ne false hie]
        by_cases hij : i = j
        · subst hij
          rw [ho] at hoj
          injection hoj with hoj
          subst hoj
          exact hall e he hb
        · rw [getD_set_ne false hij] at hj
          exact hcl j oj hoj hj e he hb
      · rw [hdst]
        refine ⟨hS.1, by show (a.tmps.setIfInBounds d v).size = _; rw [Array.size_setIfInBounds]; exact hS.2.1, fun d' hd' => ?_⟩
        have hne : d ≠ d' := fun e => hd' i o hin ho (by rw [hdst, e])
        show (a.tmps.setIfInBounds d v)[d']? = _
        rw [Array.getElem?_setIfInBounds_ne hne]
        exact hS.2.2 d' hd'
      · intro j hj
        by_cases hij : i = j
        · subst hij
          refine ⟨o, d, v, ho, hdst, ?_, hv⟩
          rw [hdst]
          show (a.tmps.setIfInBounds d v)[d]? = _
          rw [Array.getElem?_setIfInBounds_self_of_lt (by rw [hS.2.1]; exact hdn)]
        · have hj' : listed.getD j false = true := by rw [getD_set_ne false hij] at hj; exact hj
          have hjn : j < n := by
            rcases Nat.lt_or_ge j n with h | h
            · exact h
            · rw [hlast j h] at hj'; cases hj'
          obtain ⟨o', d', u, ho', hd', hu, hm⟩ := hM j hj'
          refine ⟨o', d', u, ho', hd', ?_, hst j u hj' hm⟩
          rw [hdst]
          have hne : d ≠ d' := fun e => hij (hdu j o' hjn ho' (by rw [hd', e])).symm
          show (a.tmps.setIfInBounds d v)[d']? = _
          rw [Array.getElem?_setIfInBounds_ne hne]
          exact hu
      · have hlt : ∀ k, listed.getD k false = true → k < n := fun k hk => by
          rcases Nat.lt_or_ge k n with h | h
          · exact h
          · rw [hlast k h] at hk; cases hk
        have hself : (a.put o.dst v).tmps[d]? = some v := by
          rw [hdst]
          show (a.tmps.setIfInBounds d v)[d]? = _
          rw [Array.getElem?_setIfInBounds_self_of_lt (by rw [hS.2.1]; exact hdn)]
        have hother : ∀ k ok dk x, k ≠ i → k < n → l.toArray[k]? = some ok → ok.dst = some dk → (a.put o.dst v).tmps[dk]? = some x → a.tmps[dk]? = some x := by
          intro k ok dk x hki hkn hok hdk hx
          rw [hdst] at hx
          have hx : (a.tmps.setIfInBounds d v)[dk]? = some x := hx
          have hne : d ≠ dk := fun e => hki (hdu k ok hkn hok (by rw [hdk, e]))
          rwa [Array.getElem?_setIfInBounds_ne hne] at hx
        have hmade : ∀ k ok dk x, listed.getD k false = true → l.toArray[k]? = some ok → ok.dst = some dk → a.tmps[dk]? = some x → M listed k x w := by
          intro k ok dk x hk hok hdk hx
          obtain ⟨o', d', u, ho', hd', hu, hm⟩ := hM k hk
          rw [hok] at ho'
          injection ho' with ho'
          subst ho'
          rw [hdk] at hd'
          injection hd' with hd'
          subst hd'
          rw [hx] at hu
          injection hu with hu
          subst hu
          exact hm
        intro j k oj ok dj dk x y hjk hj hk hoj hok hdj hdk hx hy
        by_cases hij : j = i
        · subst hij
          rw [ho] at hoj
          injection hoj with hoj
          subst hoj
          rw [hdst] at hdj
          injection hdj with hdj
          subst hdj
          rw [hself] at hx
          injection hx with hx
          subst hx
          have hk' : listed.getD k false = true := by rw [getD_set_ne false hjk] at hk; exact hk
          have hy' := hother k ok dk y (fun e => hjk e.symm) (hlt k hk') hok hdk hy
          exact (hrr k y (fun e => hjk e.symm) hk' ⟨ok, dk, hok, hdk, hy'⟩ (hmade k ok dk y hk' hok hdk hy')).1
        · have hj' : listed.getD j false = true := by rw [getD_set_ne false (fun e => hij e.symm)] at hj; exact hj
          have hx' := hother j oj dj x hij (hlt j hj') hoj hdj hx
          by_cases hik : k = i
          · subst hik
            rw [ho] at hok
            injection hok with hok
            subst hok
            rw [hdst] at hdk
            injection hdk with hdk
            subst hdk
            rw [hself] at hy
            injection hy with hy
            subst hy
            exact (hrr j x hij hj' ⟨oj, dj, hoj, hdj, hx'⟩ (hmade j oj dj x hj' hoj hdj hx')).2
          · have hk' : listed.getD k false = true := by rw [getD_set_ne false (fun e => hik e.symm)] at hk; exact hk
            exact hR j k oj ok dj dk x y hjk hj' hk' hoj hok hdj hdk hx' (hother k ok dk y hik (hlt k hk') hok hdk hy)
      · have hk := key listed.toList i n hin (by rw [Array.getElem?_toList, Array.getElem?_eq_getElem hil, hun'])
        have hts : (listed.setIfInBounds i true).toList = listed.toList.set i true := by simp
        rw [hts]
        omega
/-- whatever the order, all is made; then the chain -/
theorem wp_region_invT {id : Nat} {a : Act} {w : World} {l : List Oper} (C : World → Prop) (M : Array Bool → Nat → Value → World → Prop) (R : Nat → Value → Nat → Value → Prop) (n : Nat) (hnl : n ≤ l.toArray.size) (hm : P.follows .mixedOrders = true) (hdep : depsB l.toArray = true) (hd : headB l.toArray n a.tmps.size = true) (htB : tailB .any l.toArray n = true) (hwB : waitedB .any l.toArray n = true)
    (hseq : Region.seqB .any l.toArray (l.toArray.size - n) n (doneN l.toArray.size n) = true) (hC : C w.drew)
    (hstep : ∀ (i : Nat) (o : Oper), i < n → l.toArray[i]? = some o → OpMakesR P .any l.toArray Q C M R n a i o)
    (hfin : ∀ listed a' w', C w' → SameN l.toArray n a a' → (∀ i, i < n → listed.getD i false = true) → (∀ i, i < n → MadeAt l.toArray (M listed) i a' w') → PairsAt l.toArray R listed a' → wpList P l.toArray Q (l.drop n) a' w') : (Code.region id l.toArray true).wp P Q a w := by
  refine wp_region_any hm ?_
  have h := wpAny_invT (md := .any) hnl hdep hd htB hwB hseq hstep hfin n (Array.replicate l.toArray.size false) a w.drew (by simp) (fun i _ => by rw [getD_replicate_false]) (fun j o _ hj => by rw [getD_replicate_false] at hj; cases hj) hC ⟨rfl, rfl, fun _ _ => rfl⟩ (fun j hj => by rw [getD_replicate_false] at hj; cases hj) (fun i j _ _ _ _ _ _ _ hj => by rw [getD_replicate_false] at hj; cases hj) (by
    rw [Array.toList_replicate, List.take_replicate, List.filter_replicate_of_pos (by rfl), List.length_replicate]
    omega)
  rw [show n + (l.toArray.size - n) = l.toArray.size by omega] at h
  exact h
end
end Go.Proofs.Ytapihikbdcplaaa
