/- Drawn regions (QSpl): a read is taken first also where late operations wait for it through others. -/
import Derived.Test.YtndhbdbfjkmloaaDoorQSpl
namespace Go.Proofs.YtndhbdbfjkmloaaDoor

section
variable {P : Program} {ops : Array Oper} {md : Region.Mode} {C : World → Prop} {late : Nat → Bool} {Q : Exit → Act → World → Prop}
/-- of what is listed all is listed that it waits for -/
def Closed (md : Region.Mode) (ops : Array Oper) (listed : Array Bool) : Prop := ∀ (j : Nat) (oj : Oper), ops[j]? = some oj → listed.getD j false = true → ∀ e ∈ oj.after, Region.binds md e = true → listed.getD e.on false = true
def closedB (md : Region.Mode) (ops : Array Oper) (listed : Array Bool) : Bool := (List.range ops.size).all fun j => match ops[j]? with
  | some oj => !(listed.getD j false) || oj.after.all fun e => !(Region.binds md e) || listed.getD e.on false
  | none => true
theorem closedB_spec {listed : Array Bool} (h : closedB md ops listed = true) : Closed md ops listed := by
  intro j oj hj hl e he hb
  unfold closedB at h
  have h1 := List.all_eq_true.1 h j (List.mem_range.2 (Array.getElem?_eq_some_iff.1 hj).1)
  simp only [hj, hl, Bool.not_true, Bool.false_or] at h1
  have h2 := Array.all_eq_true'.1 h1 e he
  simpa [hb] using h2
/-- does one operation wait for another, maybe through others? -/
def waitsT (md : Region.Mode) (ops : Array Oper) : Nat → Nat → Nat → Bool
  | 0, _, _ => false
  | f + 1, j, i => match ops[j]? with
    | some oj => oj.after.any fun e => Region.binds md e && (e.on == i || waitsT md ops f e.on i)
    | none => false
theorem waitsT_step {f j i : Nat} (h : waitsT md ops (f + 1) j i = true) : ∃ oj, ops[j]? = some oj ∧ ∃ e ∈ oj.after, Region.binds md e = true ∧ (e.on = i ∨ waitsT md ops f e.on i = true) := by
  unfold waitsT at h
  split at h
  · rename_i oj hj
    obtain ⟨e, he, hb⟩ := Array.any_eq_true'.1 h
    simp only [Bool.and_eq_true, Bool.or_eq_true, beq_iff_eq] at hb
    exact ⟨oj, hj, e, he, hb.1, hb.2⟩
  · cases h
theorem waitsT_listed {listed : Array Bool} (hc : Closed md ops listed) : ∀ (f j i : Nat), waitsT md ops f j i = true → listed.getD j false = true → listed.getD i false = true
  | 0, _, _, h, _ => by cases h
  | f + 1, j, i, h, hl => by
    obtain ⟨oj, hj, e, he, hb, h1⟩ := waitsT_step h
    have h2 := hc j oj hj hl e he hb
    rcases h1 with h1 | h1
    · rw [← h1]; exact h2
    · exact waitsT_listed hc f _ _ h1 h2
theorem waitsT_ready {listed : Array Bool} (hc : Closed md ops listed) {f j i : Nat} (h : waitsT md ops f j i = true) (hr : j ∈ Region.ready md ops listed) : listed.getD i false = true := by
  cases f with
  | zero => cases h
  | succ f =>
    obtain ⟨oj, hj, e, he, hb, h1⟩ := waitsT_step h
    obtain ⟨_, o', ho', hall⟩ := mem_ready.1 hr
    rw [hj] at ho'
    injection ho' with ho'
    subst ho'
    have h2 := hall e he hb
    rcases h1 with h1 | h1
    · rw [← h1]; exact h2
    · exact waitsT_listed hc f _ _ h1 h2
/-- a move: it leaves the world as it is -/
def stillB (ops : Array Oper) (j : Nat) : Bool := match ops[j]? with
  | some o => (match o.op with
    | .move _ => true
    | _ => false)
  | none => false
theorem goesI_still {j : Nat} (h : stillB ops j = true) {K : Act → World → Prop} {a : Act} {w : World} (hg : goesI P ops j K a w) : goesI P ops j (fun a' w' => w' = w ∧ K a' w') a w := by
  unfold stillB at h
  unfold goesI at *
  cases ho : ops[j]? with
  | none => rw [ho] at h; cases h
  | some o =>
    rw [ho] at h
    simp only [ho] at hg ⊢
    split
    · rename_i hw
      simp only [hw, if_true] at hg
      cases hop : o.op with
      | move x =>
        unfold stepT at *
        simp only [execOp, hop] at hg ⊢
        exact ⟨by trivial, hg⟩
      | _ => simp [hop] at h
    · rename_i hw
      simp only [hw] at hg
      exact ⟨by trivial, hg⟩
def lateT (md : Region.Mode) (ops : Array Oper) (late : Nat → Bool) (i : Nat) : Bool := (List.range ops.size).all fun j => !late j || waitsT md ops ops.size j i || stillB ops j
theorem lateT_spec {i : Nat} (h : lateT md ops late i = true) {listed : Array Bool} (hc : Closed md ops listed) (hi : listed.getD i true = false) : ∀ j, late j = true → j ∈ Region.ready md ops listed → stillB ops j = true := by
  intro j hj hr
  obtain ⟨_, oj, hoj, _⟩ := mem_ready.1 hr
  unfold lateT at h
  have h1 := List.all_eq_true.1 h j (List.mem_range.2 (Array.getElem?_eq_some_iff.1 hoj).1)
  rw [hj] at h1
  simp only [Bool.not_true, Bool.false_or, Bool.or_eq_true] at h1
  rcases h1 with h1 | h1
  rotate_left
  · exact h1
  have h2 := waitsT_ready hc h1 hr
  rcases Nat.lt_or_ge i listed.size with h' | h'
  · simp [h'] at hi h2; rw [hi] at h2; cases h2
  · simp [Array.getElem?_eq_none h'] at h2
theorem Closed.set {listed : Array Bool} (hc : Closed md ops listed) {j : Nat} (hr : j ∈ Region.ready md ops listed) : Closed md ops (listed.setIfInBounds j true) := by
  intro k ok hk hl e he hb
  by_cases hkj : k = j
  · subst hkj
    obtain ⟨_, o', ho', hall⟩ := mem_ready.1 hr
    rw [hk] at ho'
    injection ho' with ho'
    subst ho'
    exact getD_set_true (hall e he hb)
  · rw [getD_set_ne false (Ne.symm hkj)] at hl
    exact getD_set_true (hc k ok hk hl e he hb)
theorem firstT {i : Nat} {oi : Oper} {v : Value} (hlate : lateT md ops late i = true) (hi : ops[i]? = some oi) (hsel : ∀ (j : Nat) (o : Oper) cs b, ops[j]? = some o → o.op ≠ .select cs b) :
    ∀ (fuel : Nat) (listed : Array Bool) (a : Act) (w : World), C w → Closed md ops listed →
      (∀ j oj, ops[j]? = some oj → j ≠ i → listed.getD j true = false → (∀ e ∈ oj.after, Region.binds md e = true → e.on ≠ i) → oi.apart ops oj = true) →
      i ∈ Region.ready md ops listed → ReadC P ops C oi v a →
      wpAnyL2 P md ops C late Q fuel (listed.setIfInBounds i true) (a.put oi.dst v) w → wpAnyL2 P md ops C late Q (fuel + 1) listed a w := by
  intro fuel
  induction fuel with
  | zero =>
    intro listed a w hC _ _ hr hy H
    refine ⟨fun h => (by rw [h] at hr; cases hr), fun j hj => ?_⟩
    by_cases hji : j = i
    · subst hji; exact hy.goes hi hC ⟨fun _ => hC, H⟩
    · have := ready_mono hj hji
      rw [H.1] at this
      cases this
  | succ fuel ih =>
    intro listed a w hC hcl hfree hr hy H
    refine ⟨fun h => (by rw [h] at hr; cases hr), fun j hj => ?_⟩
    by_cases hji : j = i
    · subst hji; exact hy.goes hi hC ⟨fun _ => hC, H⟩
    · have h1 : goesI P ops j (fun a' w' => (late j = false → C w') ∧ C w' ∧ wpAnyL2 P md ops C late Q fuel ((listed.setIfInBounds i true).setIfInBounds j true) a' w') (a.put oi.dst v) w := by
        have h0 := H.2 j (ready_mono hj hji)
        cases hl : late j with
        | false => rw [hl] at h0; exact goesI.mono (fun a' w' h => ⟨h.1, h.1 rfl, h.2⟩) h0
        | true =>
          have hst := lateT_spec hlate hcl (mem_ready.1 hr).1 j hl hj
          exact goesI.mono (fun a' w' h => ⟨fun h => (by cases h), by rw [h.1]; exact hC, h.2.2⟩) (goesI_still hst h0)
      obtain ⟨hjun, oj, hoj, hall⟩ := mem_ready.1 hj
      have hnot : ∀ e ∈ oj.after, Region.binds md e = true → e.on ≠ i := fun e he hb heq => by
        have h1 := hall e he hb
        have h0 := (mem_ready.1 hr).1
        rw [heq] at h1
        rcases Nat.lt_or_ge i listed.size with h' | h'
        · simp [h'] at h0 h1; rw [h0] at h1; cases h1
        · simp [Array.getElem?_eq_none h'] at h1
      have h2 := goesI_put hoj (hfree j oj hoj hji hjun hnot) (fun cs b => hsel i oi cs b hi) (fun cs b => hsel j oj cs b hoj) hy h1
      have hfree' : ∀ k ok, ops[k]? = some ok → k ≠ i → (listed.setIfInBounds j true).getD k true = false →
          (∀ e ∈ ok.after, Region.binds md e = true → e.on ≠ i) → oi.apart ops ok = true := fun k ok hk hki hun hno => by
        refine hfree k ok hk hki ?_ hno
        by_cases hjk : j = k
        · subst hjk; exact hjun
        · rw [getD_set_ne true hjk] at hun; exact hun
      refine goesI.mono (fun a' w' h3 => ⟨h3.2.1, ih (listed.setIfInBounds j true) a' w' (h3.2.2.1) (hcl.set hj) hfree' (ready_mono hr (Ne.symm hji)) h3.1 ?_⟩) h2
      rw [Array.setIfInBounds_comm _ _ hji]
      exact h3.2.2.2
theorem L.rdt {f i : Nat} {o : Oper} {listed : Array Bool} {a : Act} {w : World} (hi : ops.toList[i]? = some o) (hb : (Region.noSelect ops && (Region.ready md ops listed).contains i && Region.free md ops listed i && lateT md ops late i && closedB md ops listed) = true) (hC : C w) (hg : o.guard = none) {v : Value} (hy : ∀ W, C W → readW P o a W v)
    (h : wpAnyL2 P md ops C late Q f (listed.setIfInBounds i true) (a.put o.dst v) w) : wpAnyL2 P md ops C late Q (f + 1) listed a w := by
  rw [Array.getElem?_toList] at hi
  simp only [Bool.and_eq_true] at hb
  exact firstT hb.1.2 hi (Region.noSelect_spec hb.1.1.1.1) f listed a w hC (closedB_spec hb.2) (Region.free_spec hi hb.1.1.2) (by simpa using hb.1.1.1.2) (.inl ⟨by simp [Region.wanted, hg], hy⟩) h
end
end Go.Proofs.YtndhbdbfjkmloaaDoor
