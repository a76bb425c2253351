/- A drawn region in which a call may panic: reads commute (after QSpl). gram.rules and gram.Read. -/
import Derived.Test.YtndhbdbfjkmloaaDoorJTopText7
import Derived.Laws.OwnMore
import Derived.Deep.RegionLawGrows
import Derived.Test.YtndhbdbfjkmloaaDoorJTopText0
import Derived.Test.YtndhbdbfjkmloaaDoorJTopText12
import Derived.Test.YtndhbdbfjkmloaaDoorJTopText14
namespace Go.Proofs.YtndhbdbfjkmloaaDoor
set_option maxRecDepth 100000
section
variable {P : Program} {ops : Array Oper} {md : Region.Mode} {C : World -> Prop} {late : Nat -> Bool} {Q : Exit -> Act -> World -> Prop} {X : List PanicEntry -> World -> Prop} {D : List Deferred} {m : Nat} {T : Array Value}
structure InvA (D : List Deferred) (m : Nat) (T : Array Value) (a : Act) : Prop where
  dfs : a.defers = D
  tm : ∀ i, i < m -> a.tmps[i]? = T[i]?
theorem InvA.put {D : List Deferred} {m : Nat} {T : Array Value} {a : Act} (h : InvA D m T a) {dst : Option Nat} (hd : dst.all (fun d => decide (m <= d)) = true) (u : Value) : InvA D m T (a.put dst u) := by
  cases dst with
  | none => exact h
  | some d =>
    have hd : m <= d := by simpa using hd
    exact ⟨h.dfs, fun i hi => by
      show (a.tmps.setIfInBounds d u)[i]? = _
      rw [Array.getElem?_setIfInBounds, if_neg (by omega)]
      exact h.tm i hi⟩
def stepP (P : Program) (X : List PanicEntry -> World -> Prop) (o : Oper) (a : Act) (w : World) (K : Act -> World -> Prop) : Prop := match (execOp a.eval o).run P w with
  | .ok (.value u) w' => K (a.put o.dst u) w'
  | .ok .skip w' => K (a.put o.dst undef) w'
  | .ok (.enter f args) w' => Calls P f args w' (fun e w'' => (∃ v, e = .returned v /\ K (a.put o.dst v) w'') \/ ∃ ch, e = .panicked ch /\ X ch w'')
  | _ => False
theorem stepP.wp {o : Oper} {a : Act} {w : World} {K : Act -> World -> Prop} (hX : ∀ ch w a, X ch w -> InvA D m T a -> Q (.panic ch) a w) (ha : InvA D m T a) (hd : o.dst.all (fun d => decide (m <= d)) = true) (h : stepP P X o a w K) : o.wp P a w (fun a' w' => InvA D m T a' /\ K a' w') Q := by
  unfold stepP at h
  unfold Oper.wp
  generalize (execOp a.eval o).run P w = r at *
  cases r with
  | ok n w' =>
    cases n <;> simp only at h <;> simp only [Oper.upon]
    case value u => exact ⟨ha.put hd _, h⟩
    case skip => exact ⟨ha.put hd _, h⟩
    case enter f args =>
      refine h.mono fun e w'' h => ?_
      rcases h with ⟨v, he, hw''⟩ | ⟨ch, he, hx⟩
      · subst he; exact ⟨ha.put hd _, hw''⟩
      · subst he; exact hX ch w'' _ hx ha
  | halt x w' => simp only at h
theorem stepP.mono {o : Oper} {a : Act} {w : World} {K K' : Act -> World -> Prop} (hK : ∀ a w, K a w -> K' a w) (h : stepP P X o a w K) : stepP P X o a w K' := by
  unfold stepP at *
  generalize (execOp a.eval o).run P w = r at *
  cases r with
  | ok n w' =>
    cases n <;> simp only at h ⊢
    case value u => exact hK _ _ h
    case skip => exact hK _ _ h
    case enter f args => exact h.mono fun e w'' h => h.imp (fun ⟨v, he, hw''⟩ => ⟨v, he, hK _ _ hw''⟩) id
  | halt x w' => simp only at h
def goesP (P : Program) (X : List PanicEntry -> World -> Prop) (ops : Array Oper) (i : Nat) (K : Act -> World -> Prop) (a : Act) (w : World) : Prop := match ops[i]? with
  | none => K a w
  | some o => if Region.wanted o (yielded ops a.tmps) then stepP P X o a w K else K (a.put o.dst undef) w
theorem goesP.mono {i : Nat} {a : Act} {w : World} {K K' : Act -> World -> Prop} (hK : ∀ a w, K a w -> K' a w) (h : goesP P X ops i K a w) : goesP P X ops i K' a w := by
  unfold goesP at *
  split
  · rename_i ho; simp only [ho] at h; exact hK _ _ h
  · rename_i o ho
    simp only [ho] at h
    split
    · rename_i hw; simp only [hw, if_true] at h; exact stepP.mono hK h
    · rename_i hw; simp only [hw] at h; exact hK _ _ h
def wpAnyP (P : Program) (X : List PanicEntry -> World -> Prop) (md : Region.Mode) (ops : Array Oper) (C : World -> Prop) (late : Nat -> Bool) (Q : Exit -> Act -> World -> Prop) : Nat -> Array Bool -> Act -> World -> Prop
  | 0, listed, a, w => Region.ready md ops listed = [] /\ Q .normal a w
  | f + 1, listed, a, w => (Region.ready md ops listed = [] -> Q .normal a w) /\ ∀ i ∈ Region.ready md ops listed, goesP P X ops i (fun a' w' => (late i = false -> C w') /\ wpAnyP P X md ops C late Q f (listed.setIfInBounds i true) a' w') a w
theorem wpAny_of_P (hX : ∀ ch w a, X ch w -> InvA D m T a -> Q (.panic ch) a w) (hd : ops.all (fun o => o.dst.all (fun d => decide (m <= d))) = true) : ∀ (f : Nat) (listed : Array Bool) (a : Act) (w : World), InvA D m T a -> wpAnyP P X md ops C late Q f listed a w -> wpAny P md ops Q f listed a w
  | 0, _, _, _, _, h => h
  | f + 1, listed, a, w, ha, h => ⟨h.1, fun i hi => by
      have h1 := h.2 i hi
      unfold goesP at h1
      unfold wpOp
      split
      · rename_i ho; simp only [ho] at h1; exact wpAny_of_P hX hd f _ _ _ ha h1.2
      · rename_i o ho
        have hdo : o.dst.all (fun d => decide (m <= d)) = true := by
          obtain ⟨hi', rfl⟩ := Array.getElem?_eq_some_iff.1 ho
          exact (Array.all_eq_true.1 hd) i hi'
        simp only [ho] at h1
        split
        · rename_i hw
          simp only [hw, if_true] at h1
          exact .inl (Oper.wp_mono (fun a' w' h2 => wpAny_of_P hX hd f _ _ _ h2.1 h2.2.2) (stepP.wp hX ha hdo h1))
        · rename_i hw
          simp only [hw] at h1
          exact wpAny_of_P hX hd f _ _ _ (ha.put hdo _) h1.2⟩
theorem ReadC.doesP {i : Nat} {o : Oper} {v : Value} {a : Act} {w : World} (hi : ops[i]? = some o) (hC : C w) (hy : ReadC P ops C o v a) {K : Act -> World -> Prop} (h : K (a.put o.dst v) w) : goesP P X ops i K a w := by
  unfold goesP
  simp only [hi]
  rcases hy with ⟨hw, hv⟩ | ⟨hw, rfl⟩
  · simp only [hw, if_true]
    have h1 := hv w hC
    unfold readW at h1
    unfold stepP
    generalize (execOp a.eval o).run P w = r at *
    cases r with
    | ok n w' =>
      cases n <;> simp only at h1 ⊢
      case value u => obtain ⟨rfl, rfl⟩ := h1; exact h
      case skip => obtain ⟨rfl, rfl⟩ := h1; exact h
    | halt x w' => simp only at h1
  · simp only [hw, Bool.false_eq_true, if_false]; exact h
theorem goesP_put {j : Nat} {oi oj : Oper} {v : Value} (hj : ops[j]? = some oj) (hap : oi.apart ops oj = true)
    (hsi : ∀ cs b, oi.op ≠ .select cs b) (hsj : ∀ cs b, oj.op ≠ .select cs b) {K : Act -> World -> Prop} {a : Act} {w : World}
    (hy : ReadC P ops C oi v a) (h : goesP P X ops j K (a.put oi.dst v) w) :
    goesP P X ops j (fun a' w' => ReadC P ops C oi v a' /\ K (a'.put oi.dst v) w') a w := by
  obtain ⟨h1, h2, h3⟩ := Oper.apart_spec hap
  have keep : ∀ u, ReadC P ops C oi v (a.put oj.dst u) := fun u =>
    hy.of_same (execOp_put oi hsi a oj.dst u h3) (wanted_put oi a oj.dst u h3)
  have hcm : ∀ u, (a.put oi.dst v).put oj.dst u = (a.put oj.dst u).put oi.dst v := fun u => by rw [<- Act.put_comm a v u h2]
  unfold goesP at *
  simp only [hj] at *
  rw [wanted_put oj a oi.dst v h1] at h
  split
  · rename_i hw
    simp only [hw, if_true] at h
    unfold stepP at *
    rw [execOp_put oj hsj a oi.dst v h1] at h
    generalize (execOp a.eval oj).run P w = r at *
    cases r with
    | ok n w' =>
      cases n <;> simp only at h ⊢
      case value u => exact ⟨keep u, by rw [<- hcm u]; exact h⟩
      case skip => exact ⟨keep _, by rw [<- hcm undef]; exact h⟩
      case enter f args => exact h.mono fun e w'' h => h.imp (fun ⟨u, he, hw''⟩ => ⟨u, he, keep u, by rw [<- hcm u]; exact hw''⟩) id
    | halt x w' => simp only at h
  · rename_i hw
    simp only [hw] at h
    exact ⟨keep _, by rw [<- hcm undef]; exact h⟩
theorem firstP {i : Nat} {oi : Oper} {v : Value} (hlate : ∀ j, late j = true -> ∀ listed : Array Bool, listed.getD i true = false -> j ∉ Region.ready md ops listed) (hi : ops[i]? = some oi) (hsel : ∀ (j : Nat) (o : Oper) cs b, ops[j]? = some o -> o.op ≠ .select cs b) :
    ∀ (fuel : Nat) (listed : Array Bool) (a : Act) (w : World), C w ->
      (∀ j oj, ops[j]? = some oj -> j ≠ i -> listed.getD j true = false -> (∀ e ∈ oj.after, Region.binds md e = true -> e.on ≠ i) -> oi.apart ops oj = true) ->
      i ∈ Region.ready md ops listed -> ReadC P ops C oi v a ->
      wpAnyP P X md ops C late Q fuel (listed.setIfInBounds i true) (a.put oi.dst v) w -> wpAnyP P X md ops C late Q (fuel + 1) listed a w := by
  intro fuel
  induction fuel with
  | zero =>
    intro listed a w hC _ hr hy H
    refine ⟨fun h => (by rw [h] at hr; cases hr), fun j hj => ?_⟩
    by_cases hji : j = i
    · subst hji; exact hy.doesP hi hC ⟨fun _ => hC, H⟩
    · have := ready_mono hj hji
      rw [H.1] at this
      cases this
  | succ fuel ih =>
    intro listed a w hC hfree hr hy H
    refine ⟨fun h => (by rw [h] at hr; cases hr), fun j hj => ?_⟩
    by_cases hji : j = i
    · subst hji; exact hy.doesP hi hC ⟨fun _ => hC, H⟩
    · have h1 := H.2 j (ready_mono hj hji)
      obtain ⟨hjun, oj, hoj, hall⟩ := mem_ready.1 hj
      have hnot : ∀ e ∈ oj.after, Region.binds md e = true -> e.on ≠ i := fun e he hb heq => by
        have h1 := hall e he hb
        have h0 := (mem_ready.1 hr).1
        rw [heq] at h1
        rcases Nat.lt_or_ge i listed.size with h' | h'
        · simp [h'] at h0 h1; rw [h0] at h1; cases h1
        · simp [Array.getElem?_eq_none h'] at h1
      have h2 := goesP_put hoj (hfree j oj hoj hji hjun hnot) (fun cs b => hsel i oi cs b hi) (fun cs b => hsel j oj cs b hoj) hy h1
      have hfree' : ∀ k ok, ops[k]? = some ok -> k ≠ i -> (listed.setIfInBounds j true).getD k true = false ->
          (∀ e ∈ ok.after, Region.binds md e = true -> e.on ≠ i) -> oi.apart ops ok = true := fun k ok hk hki hun hno => by
        refine hfree k ok hk hki ?_ hno
        by_cases hjk : j = k
        · subst hjk; exact hjun
        · rw [getD_set_ne true hjk] at hun; exact hun
      have hjl : late j = false := by
        cases hl : late j with
        | false => rfl
        | true => exact absurd hj (hlate j hl listed (mem_ready.1 hr).1)
      refine goesP.mono (fun a' w' h3 => ⟨h3.2.1, ih (listed.setIfInBounds j true) a' w' (h3.2.1 hjl) hfree' (ready_mono hr (Ne.symm hji)) h3.1 ?_⟩) h2
      rw [Array.setIfInBounds_comm _ _ hji]
      exact h3.2.2
theorem firstPp {i : Nat} {oi : Oper} {v : Value} (hl : late i = true) (hi : ops[i]? = some oi) (hsel : ∀ (j : Nat) (o : Oper) cs b, ops[j]? = some o -> o.op ≠ .select cs b) :
    ∀ (fuel : Nat) (listed : Array Bool) (a : Act) (w : World),
      (∀ j oj, ops[j]? = some oj -> j ≠ i -> listed.getD j true = false -> (∀ e ∈ oj.after, Region.binds md e = true -> e.on ≠ i) -> oi.apart ops oj = true) ->
      i ∈ Region.ready md ops listed -> ReadC P ops (fun _ => True) oi v a ->
      wpAnyP P X md ops C late Q fuel (listed.setIfInBounds i true) (a.put oi.dst v) w -> wpAnyP P X md ops C late Q (fuel + 1) listed a w := by
  intro fuel
  induction fuel with
  | zero =>
    intro listed a w _ hr hy H
    refine ⟨fun h => (by rw [h] at hr; cases hr), fun j hj => ?_⟩
    by_cases hji : j = i
    · subst hji; exact hy.doesP hi trivial ⟨fun h => (by rw [hl] at h; cases h), H⟩
    · have := ready_mono hj hji
      rw [H.1] at this
      cases this
  | succ fuel ih =>
    intro listed a w hfree hr hy H
    refine ⟨fun h => (by rw [h] at hr; cases hr), fun j hj => ?_⟩
    by_cases hji : j = i
    · subst hji; exact hy.doesP hi trivial ⟨fun h => (by rw [hl] at h; cases h), H⟩
    · have h1 := H.2 j (ready_mono hj hji)
      obtain ⟨hjun, oj, hoj, hall⟩ := mem_ready.1 hj
      have hnot : ∀ e ∈ oj.after, Region.binds md e = true -> e.on ≠ i := fun e he hb heq => by
        have h1 := hall e he hb
        have h0 := (mem_ready.1 hr).1
        rw [heq] at h1
        rcases Nat.lt_or_ge i listed.size with h' | h'
        · simp [h'] at h0 h1; rw [h0] at h1; cases h1
        · simp [Array.getElem?_eq_none h'] at h1
      have h2 := goesP_put hoj (hfree j oj hoj hji hjun hnot) (fun cs b => hsel i oi cs b hi) (fun cs b => hsel j oj cs b hoj) hy h1
      have hfree' : ∀ k ok, ops[k]? = some ok -> k ≠ i -> (listed.setIfInBounds j true).getD k true = false ->
          (∀ e ∈ ok.after, Region.binds md e = true -> e.on ≠ i) -> oi.apart ops ok = true := fun k ok hk hki hun hno => by
        refine hfree k ok hk hki ?_ hno
        by_cases hjk : j = k
        · subst hjk; exact hjun
        · rw [getD_set_ne true hjk] at hun; exact hun
      refine goesP.mono (fun a' w' h3 => ⟨h3.2.1, ih (listed.setIfInBounds j true) a' w' hfree' (ready_mono hr (Ne.symm hji)) h3.1 ?_⟩) h2
      rw [Array.setIfInBounds_comm _ _ hji]
      exact h3.2.2
theorem LP.rd {f i : Nat} {o : Oper} {listed : Array Bool} {a : Act} {w : World} (hi : ops.toList[i]? = some o) (hb : (Region.noSelect ops && (Region.ready md ops listed).contains i && Region.free md ops listed i && lateB md ops late i) = true) (hC : C w) (hg : o.guard = none) {v : Value} (hy : ∀ W, C W -> readW P o a W v)
    (h : wpAnyP P X md ops C late Q f (listed.setIfInBounds i true) (a.put o.dst v) w) : wpAnyP P X md ops C late Q (f + 1) listed a w := by
  rw [Array.getElem?_toList] at hi
  simp only [Bool.and_eq_true] at hb
  exact firstP (late_spec hb.2) hi (Region.noSelect_spec hb.1.1.1) f listed a w hC (Region.free_spec hi hb.1.2) (by simpa using hb.1.1.2) (.inl ⟨by simp [Region.wanted, hg], hy⟩) h
theorem LP.rdl {f i : Nat} {o : Oper} {listed : Array Bool} {a : Act} {w : World} (hi : ops.toList[i]? = some o) (hb : (Region.noSelect ops && (Region.ready md ops listed).contains i && Region.free md ops listed i && late i) = true) (hg : o.guard = none) {v : Value} (hy : ∀ W, readW P o a W v)
    (h : wpAnyP P X md ops C late Q f (listed.setIfInBounds i true) (a.put o.dst v) w) : wpAnyP P X md ops C late Q (f + 1) listed a w := by
  rw [Array.getElem?_toList] at hi
  simp only [Bool.and_eq_true] at hb
  exact firstPp hb.2 hi (Region.noSelect_spec hb.1.1.1) f listed a w (Region.free_spec hi hb.1.2) (by simpa using hb.1.1.2) (.inl ⟨by simp [Region.wanted, hg], fun W _ => hy W⟩) h
theorem LP.one {f i : Nat} {o : Oper} {listed : Array Bool} {a : Act} {w : World} (hi : ops.toList[i]? = some o) (hb : decide (Region.ready md ops listed = [i]) = true) (hg : o.guard = none)
    (h : stepP P X o a w (fun a' w' => (late i = false -> C w') /\ wpAnyP P X md ops C late Q f (listed.setIfInBounds i true) a' w')) : wpAnyP P X md ops C late Q (f + 1) listed a w := by
  rw [Array.getElem?_toList] at hi
  have hb := of_decide_eq_true hb
  refine ⟨fun h => (by rw [hb] at h; cases h), fun j hj => ?_⟩
  rw [hb] at hj
  obtain rfl : j = i := by simpa using hj
  unfold goesP
  simp only [hi]
  rw [if_pos (by simp [Region.wanted, hg])]
  exact h
theorem LP.two {f i k : Nat} {o o' : Oper} {listed : Array Bool} {a : Act} {w : World} (hi : ops.toList[i]? = some o) (hk : ops.toList[k]? = some o') (hb : decide (Region.ready md ops listed = [i, k]) = true) (hg : o.guard = none) (hg' : o'.guard = none)
    (h : stepP P X o a w (fun a' w' => (late i = false -> C w') /\ wpAnyP P X md ops C late Q f (listed.setIfInBounds i true) a' w'))
    (h' : stepP P X o' a w (fun a' w' => (late k = false -> C w') /\ wpAnyP P X md ops C late Q f (listed.setIfInBounds k true) a' w')) : wpAnyP P X md ops C late Q (f + 1) listed a w := by
  rw [Array.getElem?_toList] at hi hk
  have hb := of_decide_eq_true hb
  refine ⟨fun h => (by rw [hb] at h; cases h), fun j hj => ?_⟩
  rw [hb] at hj
  have hj' : j = i \/ j = k := by simpa using hj
  unfold goesP
  rcases hj' with rfl | rfl
  · simp only [hi]
    rw [if_pos (by simp [Region.wanted, hg])]
    exact h
  · simp only [hk]
    rw [if_pos (by simp [Region.wanted, hg'])]
    exact h'
theorem LP.done {f : Nat} {listed : Array Bool} {a : Act} {w : World} (hb : (Region.ready md ops listed).isEmpty = true) (h : Q .normal a w) : wpAnyP P X md ops C late Q f listed a w := by
  have hb := List.isEmpty_iff.1 hb
  cases f with
  | zero => exact ⟨hb, h⟩
  | succ f => exact ⟨fun _ => h, fun i hi => by rw [hb] at hi; cases hi⟩
theorem wp_region_p {id : Nat} {a : Act} {w : World} {l : List Oper} (C : World -> Prop) (late : Nat -> Bool) (hm : P.follows .mixedOrders = true) (hX : ∀ ch w a, X ch w -> InvA D m T a -> Q (.panic ch) a w) (hd : l.toArray.all (fun o => o.dst.all (fun d => decide (m <= d))) = true) (ha : InvA D m T a)
    (h : wpAnyP P X .any l.toArray C late Q l.toArray.size (Array.replicate l.toArray.size false) a w.drew) : (Code.region id l.toArray true).wp P Q a w :=
  wp_region_any hm (wpAny_of_P hX hd _ _ _ _ ha h)
end
end Go.Proofs.YtndhbdbfjkmloaaDoor
namespace Go.Proofs.YtndhbdbfjkmloaaDoor
set_option maxHeartbeats 4000000
set_option maxRecDepth 100000
open Go.RowKit Go.Maps
theorem rules1_fault (i : Nat) (pa pb : Nat) (w : World) (va vb : Value) (ta tb : TypeId) (ha : Blk w pa ta #[va]) (hb : Blk w pb tb #[vb]) (hab : pa ≠ pb) :
    CallsD Tryd.prog 66 #[.pointer (some ⟨pa, 0, none⟩), .pointer (some ⟨pb, 0, none⟩)] (.panicking [{ v := faultV i, recovered := false }]) w fun e u' w' =>
      e = .returned (.tuple #[]) /\ u' = .panicking [{ v := faultV i, recovered := true }] /\ w' = ((w.setCell ⟨pa, 0, none⟩ (.int .i64 (i : Int))).setCell ⟨pb, 0, none⟩ (.int .i64 4)).alloc (.cells #[.int .i64 (i : Int)] 168) := by
  refine callsD_of_wpS Tryd.func66 rfl fun c₀ cs hu => ?_
  apply wpS_region
  simp [wpOpsS, go_sem, recoverD, hu, Tryd.ntmps66]
  refine (catch_fault i pa pb w va vb ta tb ha hb hab).mono ?_
  rintro e w1 ⟨rfl, rfl⟩
  simp [bodyPostS, results, Tryd.results66]
theorem rules1_idle (pa pb : Nat) (w : World) :
    CallsD Tryd.prog 66 #[.pointer (some ⟨pa, 0, none⟩), .pointer (some ⟨pb, 0, none⟩)] .returning w fun e u' w' =>
      e = .returned (.tuple #[]) /\ u' = .returning /\ w' = w := by
  refine callsD_of_wpS Tryd.func66 rfl fun c₀ cs hu => ?_
  apply wpS_region
  simp [wpOpsS, go_sem, recoverD, hu, Tryd.ntmps66]
  refine (catch_nil ⟨pa, 0, none⟩ ⟨pb, 0, none⟩ w).mono ?_
  rintro e w1 ⟨rfl, rfl⟩
  simp [bodyPostS, results, Tryd.results66]
  cases c₀
  simp_all
structure RuI (s : ByteArray) (w : World) (acc : List Rl) (V : Option Addr) (cv : Nat) (rows : Nat -> List Value) (l : List UInt8) (wr : World) : Prop where
  bel : Below w.heap.size w wr
  gbx : Blk wr w.heap.size 39 #[.slice V acc.length cv]
  abx : Blk wr (w.heap.size + 1) 3 #[.int .i64 0]
  xbx : Blk wr (w.heap.size + 1 + 1) 28 #[.int .i64 0]
  rus : Rus (w.heap.size + 1 + 1 + 1 + 1) wr acc V cv rows
  rd : RdAt s true (w.heap.size + 1 + 1 + 1) l wr
  few : acc.length + l.length <= s.size + 1
section
variable {s : ByteArray} {w : World} {acc : List Rl} {V : Option Addr} {cv : Nat} {rows : Nat -> List Value} {l l' : List UInt8} {wr W' : World}
theorem Rus.grownR {base : Nat} (h : Rus base wr acc V cv rows) {rb : Nat} (hrb : rb < base) (hg : wr.grownBy W' (some rb)) : Rus base W' acc V cv rows :=
  ⟨own_far h.own hg hrb, h.small, fun i e he => ((h.body i e he).keep (W' := W') fun p hp => World.cell?_of_block (hg.block p.block hp.2.1 (by intro e; injection e with e; have := hp.1; omega))).mono (fun b hb => ⟨hb.1, Nat.lt_of_lt_of_le hb.2.1 hg.size, hb.2.2⟩) hg.size⟩
theorem RuI.went (H : RuI s w acc V cv rows l wr) (hg : wr.grownBy W' (some (w.heap.size + 1 + 1 + 1))) (hr : RdAt s true (w.heap.size + 1 + 1 + 1) l' W') (hl : l'.length <= l.length) : RuI s w acc V cv rows l' W' :=
  ⟨H.bel.grown hg H.bel.size (fun k hk => by injection hk with hk; omega), H.gbx.grown hg (fun e => by injection e with e; omega), H.abx.grown hg (fun e => by injection e with e; omega), H.xbx.grown hg (fun e => by injection e with e; omega), H.rus.grownR (by omega) hg, hr, by have := H.few; omega⟩
theorem RuI.below (H : RuI s w acc V cv rows l wr) (hb : Below wr.heap.size wr W') : RuI s w acc V cv rows l W' :=
  H.went (grown_of_below hb _) (H.rd.below hb) (Nat.le_refl _)
end
section
variable {s : ByteArray} {w : World} {acc : List Rl} {V : Option Addr} {cv : Nat} {rows : Nat -> List Value} {l : List UInt8} {wr W' : World}
theorem RuI.ne (H : RuI s w acc V cv rows l wr) {k : Nat} (hk : k < w.heap.size + 1 + 1 + 1 + 1) : some k ≠ (Value.slice V acc.length cv).ownBlock := fun e => by have := (H.rus.own.lt _ e.symm).1; omega
theorem RuI.push (H : RuI s w acc V cv rows l wr) {V' : Option Addr} {c' lo : Nat} {r : Rl} {rc : List Value} (hlo : w.heap.size + 1 + 1 + 1 + 1 <= lo) (hold : ∀ q, (Value.slice V acc.length cv).ownBlock = some q -> q < lo) (hn : r.1.size <= maxLen) (hE : ExF (fun b => lo <= b /\ b < wr.heap.size) wr.heap.size wr r.2 rc)
    (hown : W'.ownsRow (w.heap.size + 1 + 1 + 1 + 1) 71 8 (.slice V' (acc.length + 1) c') (acc.length + 1) (ruF acc rows 0 ++ (.string r.1 :: rc))) (hg : wr.grownBy W' (Value.slice V acc.length cv).ownBlock)
    (hat : (Value.slice V' (acc.length + 1) c').ownBlock = (Value.slice V acc.length cv).ownBlock \/ (Value.slice V' (acc.length + 1) c').ownBlock = some wr.heap.size) (hf : acc.length + 1 + l.length <= s.size + 1) :
    RuI s w (acc ++ [r]) V' c' (fun i => if i = acc.length then rc else rows i) l (W'.setCell ⟨w.heap.size, 0, none⟩ (.slice V' (acc.length + 1) c')) := by
  have hl : (acc ++ [r]).length = acc.length + 1 := by simp
  have h1 := H.gbx.grown hg (H.ne (by omega))
  refine ⟨(H.bel.grown hg H.bel.size (fun k hk => by have := (H.rus.own.lt k hk).1; omega)).setCell (Nat.le_refl _) _, ?_, (H.abx.grown hg (H.ne (by omega))).far (show w.heap.size + 1 ≠ w.heap.size by omega) _, (H.xbx.grown hg (H.ne (by omega))).far (show w.heap.size + 1 + 1 ≠ w.heap.size by omega) _, (H.rus.push hlo hold hn hE hown hg hat).far (by omega) _ _, ?_, by rw [hl]; omega⟩
  · rw [hl]
    exact h1.set_ 0 _
  · have h2 := H.rd.grown hg (H.ne (by omega))
    exact ⟨h2.blk.far (show w.heap.size + 1 + 1 + 1 ≠ w.heap.size by omega) _, h2.sfx, h2.good⟩
end
theorem nm_small (l : List UInt8) : (nmL l).size <= l.length := by
  unfold nmL
  cases ht : tokL l with
  | nd e n =>
    obtain ⟨_, _, k, a, b, c, d, t, rfl, _, _, _, _, _, htl⟩ := tok_nd ht
    exact htl
  | _ => exact Nat.zero_le _
def RulesQ (s : ByteArray) (w : World) (e : Ending) (w' : World) : Prop :=
  Below w.heap.size w w' /\ ∃ R, WholeG s.data.toList R /\ ((∃ g A cp rows, R = .ok g /\ e = .returned (.tuple #[.agg #[.slice A g.length cp], .int .i64 0, .int .i64 0]) /\ Rus (w.heap.size + 1 + 1 + 1 + 1) w' g A cp rows) \/
    (∃ l A n cp, R = .no l /\ e = .returned (.tuple #[.agg #[.slice A n cp], .int .i64 (posL s l : Int), .int .i64 4])))
theorem rules_any (s : ByteArray) (hs : s.size <= 100000) (w : World) : Calls Tryd.prog 32 #[.string s] w (RulesQ s w) := by
  have hmf : ∀ (fn : Fn) (first cap : Array Value) (w : World), (Instr.makeFunc fn first cap).run Tryd.prog w = .ok (.func fn first cap) w := fun _ _ _ _ => rfl
  have HQ : Hid ((∀ (g : List Rl) (A : Option Addr) (cp : Nat) (rows : Nat -> List Value) (W' : World), WholeG s.data.toList (.ok g) -> Below w.heap.size w W' -> Rus (w.heap.size + 1 + 1 + 1 + 1) W' g A cp rows ->
        RulesQ s w (.returned (.tuple #[.agg #[.slice A g.length cp], .int .i64 0, .int .i64 0])) W') /\
      (∀ (l : List UInt8) (A : Option Addr) (n cp : Nat) (W' : World), WholeG s.data.toList (.no l) -> Below w.heap.size w W' -> RulesQ s w (.returned (.tuple #[.agg #[.slice A n cp], .int .i64 (posL s l : Int), .int .i64 4])) W')) :=
    ⟨fun g A cp rows W' h1 h2 h3 => ⟨h2, _, h1, .inl ⟨g, A, cp, rows, rfl, rfl, h3⟩⟩, fun l A n cp W' h1 h2 => ⟨h2, _, h1, .inr ⟨l, A, n, cp, rfl, rfl⟩⟩⟩
  generalize RulesQ s w = Q at HQ ⊢
  obtain ⟨i0, hi0, hz0, hz1, hz2⟩ := info_parts rule_info
  obtain ⟨f, R, hf⟩ := grJ_ends _ [] (skipL false s.data.toList) (Nat.le_refl _)
  have hsl := size_list s
  have hskl := skip_le false s.data.toList
  rw [hsl] at hskl
  have hz3 : (((w.alloc (.cells #[.slice none 0 0] 39)).alloc (.cells #[.int .i64 0] 3)).alloc (.cells #[.int .i64 0] 28)).heap.size = w.heap.size + 1 + 1 + 1 := by simp
  have b1 : Blk (((w.alloc (.cells #[.slice none 0 0] 39)).alloc (.cells #[.int .i64 0] 3)).alloc (.cells #[.int .i64 0] 28)) w.heap.size 39 #[.slice none 0 0] := ((blk_at rfl).alloc _).alloc _
  have b2 : Blk (((w.alloc (.cells #[.slice none 0 0] 39)).alloc (.cells #[.int .i64 0] 3)).alloc (.cells #[.int .i64 0] 28)) (w.heap.size + 1) 3 #[.int .i64 0] := (blk_at (by simp)).alloc _
  have b3 : Blk (((w.alloc (.cells #[.slice none 0 0] 39)).alloc (.cells #[.int .i64 0] 3)).alloc (.cells #[.int .i64 0] 28)) (w.heap.size + 1 + 1) 28 #[.int .i64 0] := blk_at (by simp)
  have hb0 : Below w.heap.size w (((w.alloc (.cells #[.slice none 0 0] 39)).alloc (.cells #[.int .i64 0] 3)).alloc (.cells #[.int .i64 0] 28)) := (((Below.refl _ _).alloc (Nat.le_refl _) _).alloc (by simp) _).alloc (by simp; omega) _
  clear hsl
  go_enter_defers Tryd.func32, Tryd.ntmps32
  go_wp2_with fail
  refine (newr_any s hs true _).mono ?_
  generalize (((w.alloc (.cells #[.slice none 0 0] 39)).alloc (.cells #[.int .i64 0] 3)).alloc (.cells #[.int .i64 0] 28)) = w3 at hz3 b1 b2 b3 hb0 ⊢
  rintro e w4 ⟨hbel, hsz, ⟨hbad, rfl⟩ | ⟨hgood, rfl, hr⟩⟩
  · have d1 := b1.below hbel b1.lt
    have d2 := b2.below hbel b2.lt
    have d3 := b3.below hbel b3.lt
    have hb4 := hb0.trans (hbel.mono (by omega))
    have hW : WholeG s.data.toList (.no (skipL false s.data.toList)) := .inl ⟨hbad, rfl⟩
    have HW := Lib.hid hW
    clear b1 b2 b3 hbel hW hskl
    go_wp2
    refine leaves_cons (f := 66) (args := #[.pointer (some ⟨w.heap.size + 1, 0, none⟩), .pointer (some ⟨w.heap.size + 1 + 1, 0, none⟩)]) (by simp) (by simp [go_sem]) ?_
    refine (rules1_fault (posL s (skipL false s.data.toList)) (w.heap.size + 1) (w.heap.size + 1 + 1) w4 _ _ _ _ d2 d3 (by omega)).mono ?_
    rintro e u' w8 ⟨rfl, rfl, hw8⟩
    have c1 : Blk w8 w.heap.size 39 #[.slice none 0 0] := by
      rw [hw8]
      exact (((d1).far (show w.heap.size ≠ w.heap.size + 1 by omega) _).far (show w.heap.size ≠ w.heap.size + 1 + 1 by omega) _).alloc _
    have c2 : Blk w8 (w.heap.size + 1) 3 #[.int .i64 ((posL s (skipL false s.data.toList)) : Int)] := by
      rw [hw8]
      exact (((d2).set_ 0 _).far (show w.heap.size + 1 ≠ w.heap.size + 1 + 1 by omega) _).alloc _
    have c3 : Blk w8 (w.heap.size + 1 + 1) 28 #[.int .i64 4] := by
      rw [hw8]
      exact (((d3).far (show w.heap.size + 1 + 1 ≠ w.heap.size + 1 by omega) _).set_ 0 _).alloc _
    have c4 : Below w.heap.size w w8 := by
      rw [hw8]
      exact (((hb4).setCell (show w.heap.size <= w.heap.size + 1 by omega) _).setCell (show w.heap.size <= w.heap.size + 1 + 1 by omega) _).alloc (by have := (d1).lt; simp [World.setCell]; omega) _
    clear hw8
    have q0 := c1.cell 0
    have q7 := c2.cell 0
    have q8 := c3.cell 0
    clear c1 c2 c3
    simp [Leaves, settle, results, Tryd.results32, go_sem, q0, q7, q8]
    exact HQ.out.2 _ _ _ _ _ HW.out c4
  · have d1 := b1.below hbel b1.lt
    have d2 := b2.below hbel b2.lt
    have d3 := b3.below hbel b3.lt
    have hb4 := hb0.trans (hbel.mono (by omega))
    clear b1 b2 b3 hbel hb0
    rw [hz3] at hr hsz
    have hI : RuI s w [] none 0 (fun _ => []) (skipL false s.data.toList) w4 := ⟨hb4, d1, d2, d3, Rus.nil _ _, hr, by simp; omega⟩
    have HI := Lib.hid hI
    have HWG : Hid (∀ R', grJ f [] (skipL false s.data.toList) = some R' -> WholeG s.data.toList R') := fun R' h => .inr ⟨hgood, f, h⟩
    have HWR : Hid (WholeG s.data.toList R) := HWG.out R hf
    have HF := Lib.hid hf
    clear hI d1 d2 d3 hb4 hr hf hgood HWG hskl
    go_wp2_with fail
    clear hz3
    go_loopg [6] f (fun n s6 wr => ∃ (acc : List Rl) (V : Option Addr) (cv : Nat) (rows : Nat -> List Value) (l' : List UInt8), Hid (RuI s w acc V cv rows l' wr) /\ Hid (n <= f /\ grJ n acc l' = some R))
    case atStart => exact ⟨[], none, 0, _, _, HI, Nat.le_refl _, HF.out⟩
    case round =>
      clear HI HF
      obtain ⟨acc, V, cv, rows, l', HI, HJ⟩ := hrel
      have hI := HI.out
      obtain ⟨hn, hjn⟩ := HJ.out
      obtain ⟨n', rfl⟩ : ∃ n', gk = n' + 1 := by
        cases gk with
        | zero => cases hjn
        | succ n => exact ⟨n, rfl⟩
      rw [grJ] at hjn
      have HNM := Lib.hid (names_any s hs true (w.heap.size + 1 + 1 + 1) l' wr hI.rd)
      cases hnm : namesL true l' with
      | false =>
        rw [if_pos hnm] at hjn
        rw [hnm] at HNM
        have HRE : Hid (R = .no l') := (Option.some.inj hjn).symm
        clear hjn hnm HJ
        go_wp2_with fail
        refine HNM.out.mono ?_
        rintro e w5 ⟨rfl, hb5⟩
        have hI5 := hI.below hb5
        have hbd := badR_any s true (w.heap.size + 1 + 1 + 1) l' w5 hI5.rd
        have HI5 := Lib.hid hI5
        clear hI HI hI5 hb5
        go_wp2_with fail
        refine hbd.mono ?_
        rintro e w6 ⟨rfl, hw6⟩
        subst w6
        have HW : Hid (WholeG s.data.toList (.no l')) := by
          show WholeG _ _
          rw [<- HRE.out]
          exact HWR.out
        have d1 := HI5.out.gbx
        have d2 := HI5.out.abx
        have d3 := HI5.out.xbx
        have hb4 := HI5.out.bel
        clear hbd HRE HWR HNM
        go_wp2
        refine leaves_cons (f := 66) (args := #[.pointer (some ⟨w.heap.size + 1, 0, none⟩), .pointer (some ⟨w.heap.size + 1 + 1, 0, none⟩)]) (by simp) (by simp [go_sem]) ?_
        refine (rules1_fault (posL s l') (w.heap.size + 1) (w.heap.size + 1 + 1) w5 _ _ _ _ d2 d3 (by omega)).mono ?_
        rintro e u' w8 ⟨rfl, rfl, hw8⟩
        have c1 : Blk w8 w.heap.size 39 #[.slice V acc.length cv] := by
          rw [hw8]
          exact (((d1).far (show w.heap.size ≠ w.heap.size + 1 by omega) _).far (show w.heap.size ≠ w.heap.size + 1 + 1 by omega) _).alloc _
        have c2 : Blk w8 (w.heap.size + 1) 3 #[.int .i64 ((posL s l') : Int)] := by
          rw [hw8]
          exact (((d2).set_ 0 _).far (show w.heap.size + 1 ≠ w.heap.size + 1 + 1 by omega) _).alloc _
        have c3 : Blk w8 (w.heap.size + 1 + 1) 28 #[.int .i64 4] := by
          rw [hw8]
          exact (((d3).far (show w.heap.size + 1 + 1 ≠ w.heap.size + 1 by omega) _).set_ 0 _).alloc _
        have c4 : Below w.heap.size w w8 := by
          rw [hw8]
          exact (((hb4).setCell (show w.heap.size <= w.heap.size + 1 by omega) _).setCell (show w.heap.size <= w.heap.size + 1 + 1 by omega) _).alloc (by have := (d1).lt; simp [World.setCell]; omega) _
        clear hw8
        have q0 := c1.cell 0
        have q7 := c2.cell 0
        have q8 := c3.cell 0
        clear c1 c2 c3
        simp [Leaves, settle, results, Tryd.results32, go_sem, q0, q7, q8]
        exact HQ.out.2 _ _ _ _ _ HW.out c4
      | true =>
        rw [if_neg (by rw [hnm]; decide)] at hjn
        rw [hnm] at HNM
        have HGO := Lib.hid (fun (x : List UInt8) (W : World) (hW : RdAt s true (w.heap.size + 1 + 1 + 1) x W) => go_any s hs true (w.heap.size + 1 + 1 + 1) x W hW)
        have y10 : wr.cell? ⟨w.heap.size + 1 + 1 + 1, 10, none⟩ = some (.string (nmL l')) := hI.rd.blk.cell 10
        have hrl := hI.rd.blk.lt
        have hll := hI.rd.pos.2.2
        have HNS := Lib.hid (show (nmL l').size <= maxLen by have := nm_small l'; unfold maxLen; omega)
        have HJN := Lib.hid hjn
        have hnx1 := nx_le l'
        have hnx2 := nx_le (nxL l')
        clear hjn hnm HJ hll
        go_wp2_with fail
        refine HNM.out.mono ?_
        rintro e w5 ⟨rfl, hb5⟩
        have z10 := (hb5.cell (p := ⟨w.heap.size + 1 + 1 + 1, 10, none⟩) hrl).trans y10
        have HI5 := Lib.hid (hI.below hb5)
        clear hI HI hb5 y10 hrl HNM
        generalize nmL l' = nm at z10 HNS HJN
        go_wp2_with fail
        refine (HGO.out l' w5 HI5.out.rd).mono ?_
        rintro e w6 ⟨hg6, ⟨hbad, rfl⟩ | ⟨hgood, rfl, hr6⟩⟩
        · have HRE : Hid (R = .no (nxL l')) := by
            have := HJN.out
            have hbad' : (tokL (nxL l')).isBad = true := hbad
            rw [if_pos hbad'] at this
            exact (Option.some.inj this).symm
          have HW : Hid (WholeG s.data.toList (.no (nxL l'))) := by
            show WholeG _ _
            rw [<- HRE.out]
            exact HWR.out
          have d1 := HI5.out.gbx.grown hg6 (fun e => by injection e with e; omega)
          have d2 := HI5.out.abx.grown hg6 (fun e => by injection e with e; omega)
          have d3 := HI5.out.xbx.grown hg6 (fun e => by injection e with e; omega)
          have hb4 := HI5.out.bel.grown hg6 HI5.out.bel.size (fun k hk => by injection hk with hk; omega)
          clear HRE HWR HGO z10 HI5 hg6
          go_wp2
          refine leaves_cons (f := 66) (args := #[.pointer (some ⟨w.heap.size + 1, 0, none⟩), .pointer (some ⟨w.heap.size + 1 + 1, 0, none⟩)]) (by simp) (by simp [go_sem]) ?_
          refine (rules1_fault (posL s (nxL l')) (w.heap.size + 1) (w.heap.size + 1 + 1) w6 _ _ _ _ d2 d3 (by omega)).mono ?_
          rintro e u' w8 ⟨rfl, rfl, hw8⟩
          have c1 : Blk w8 w.heap.size 39 #[.slice V acc.length cv] := by
            rw [hw8]
            exact (((d1).far (show w.heap.size ≠ w.heap.size + 1 by omega) _).far (show w.heap.size ≠ w.heap.size + 1 + 1 by omega) _).alloc _
          have c2 : Blk w8 (w.heap.size + 1) 3 #[.int .i64 ((posL s (nxL l')) : Int)] := by
            rw [hw8]
            exact (((d2).set_ 0 _).far (show w.heap.size + 1 ≠ w.heap.size + 1 + 1 by omega) _).alloc _
          have c3 : Blk w8 (w.heap.size + 1 + 1) 28 #[.int .i64 4] := by
            rw [hw8]
            exact (((d3).far (show w.heap.size + 1 + 1 ≠ w.heap.size + 1 by omega) _).set_ 0 _).alloc _
          have c4 : Below w.heap.size w w8 := by
            rw [hw8]
            exact (((hb4).setCell (show w.heap.size <= w.heap.size + 1 by omega) _).setCell (show w.heap.size <= w.heap.size + 1 + 1 by omega) _).alloc (by have := (d1).lt; simp [World.setCell]; omega) _
          clear hw8
          have q0 := c1.cell 0
          have q7 := c2.cell 0
          have q8 := c3.cell 0
          clear c1 c2 c3
          simp [Leaves, settle, results, Tryd.results32, go_sem, q0, q7, q8]
          exact HQ.out.2 _ _ _ _ _ HW.out c4
        · have HI6 := Lib.hid (HI5.out.went hg6 hr6 hnx1)
          have hjn := HJN.out
          rw [if_neg (by intro h; have := h.symm.trans hgood; cases this)] at hjn
          clear HJN
          have HJN := Lib.hid hjn
          clear hjn hg6 hr6 HI5 z10 hgood
          go_wp2_with fail
          refine (HGO.out (nxL l') w6 HI6.out.rd).mono ?_
          rintro e w7 ⟨hg7, ⟨hbad, rfl⟩ | ⟨hgood, rfl, hr7⟩⟩
          · have HRE : Hid (R = .no (nxL (nxL l'))) := by
              have := HJN.out
              have hbad' : (tokL (nxL (nxL l'))).isBad = true := hbad
              rw [if_pos hbad'] at this
              exact (Option.some.inj this).symm
            have HW : Hid (WholeG s.data.toList (.no (nxL (nxL l')))) := by
              show WholeG _ _
              rw [<- HRE.out]
              exact HWR.out
            have d1 := HI6.out.gbx.grown hg7 (fun e => by injection e with e; omega)
            have d2 := HI6.out.abx.grown hg7 (fun e => by injection e with e; omega)
            have d3 := HI6.out.xbx.grown hg7 (fun e => by injection e with e; omega)
            have hb4 := HI6.out.bel.grown hg7 HI6.out.bel.size (fun k hk => by injection hk with hk; omega)
            clear HRE HWR HGO HI6 hg7
            go_wp2
            refine leaves_cons (f := 66) (args := #[.pointer (some ⟨w.heap.size + 1, 0, none⟩), .pointer (some ⟨w.heap.size + 1 + 1, 0, none⟩)]) (by simp) (by simp [go_sem]) ?_
            refine (rules1_fault (posL s (nxL (nxL l'))) (w.heap.size + 1) (w.heap.size + 1 + 1) w7 _ _ _ _ d2 d3 (by omega)).mono ?_
            rintro e u' w8 ⟨rfl, rfl, hw8⟩
            have c1 : Blk w8 w.heap.size 39 #[.slice V acc.length cv] := by
              rw [hw8]
              exact (((d1).far (show w.heap.size ≠ w.heap.size + 1 by omega) _).far (show w.heap.size ≠ w.heap.size + 1 + 1 by omega) _).alloc _
            have c2 : Blk w8 (w.heap.size + 1) 3 #[.int .i64 ((posL s (nxL (nxL l'))) : Int)] := by
              rw [hw8]
              exact (((d2).set_ 0 _).far (show w.heap.size + 1 ≠ w.heap.size + 1 + 1 by omega) _).alloc _
            have c3 : Blk w8 (w.heap.size + 1 + 1) 28 #[.int .i64 4] := by
              rw [hw8]
              exact (((d3).far (show w.heap.size + 1 + 1 ≠ w.heap.size + 1 by omega) _).set_ 0 _).alloc _
            have c4 : Below w.heap.size w w8 := by
              rw [hw8]
              exact (((hb4).setCell (show w.heap.size <= w.heap.size + 1 by omega) _).setCell (show w.heap.size <= w.heap.size + 1 + 1 by omega) _).alloc (by have := (d1).lt; simp [World.setCell]; omega) _
            clear hw8
            have q0 := c1.cell 0
            have q7 := c2.cell 0
            have q8 := c3.cell 0
            clear c1 c2 c3
            simp [Leaves, settle, results, Tryd.results32, go_sem, q0, q7, q8]
            exact HQ.out.2 _ _ _ _ _ HW.out c4
          · have hr7' : RdAt s true (w.heap.size + 1 + 1 + 1) (nxL (nxL l')) w7 := hr7
            have HI7 := Lib.hid (HI6.out.went hg7 hr7' hnx2)
            have hjn := HJN.out
            rw [if_neg (by intro h; have := h.symm.trans hgood; cases this)] at hjn
            clear HJN hg7 hr7 hr7' HI6 hgood HGO
            generalize nxL (nxL l') = l2 at HI7 hjn hnx2
            cases hx : rdJ true n' .alt l2 with
            | none => rw [hx] at hjn; cases hjn
            | some R1 =>
              rw [hx] at hjn
              have HAL := Lib.hid (fun (W : World) (hW : RdAt s true (w.heap.size + 1 + 1 + 1) l2 W) => (does_all s hs true (w.heap.size + 1 + 1 + 1) n').alt l2 R1 W hW hx)
              have HLT : Hid (∀ b l3, R1 = .ok b l3 -> l3.length + 1 <= l2.length) := by
                obtain ⟨R', h1, h2⟩ := rd_ends true .alt l2
                obtain rfl := h1.uniq ⟨n', hx⟩
                exact h2
              clear hx
              cases R1 with
              | no l3 =>
                have HRE : Hid (R = .no l3) := (Option.some.inj hjn).symm
                have HW : Hid (WholeG s.data.toList (.no l3)) := by
                  show WholeG _ _
                  rw [<- HRE.out]
                  exact HWR.out
                have g0 := HI7.out.gbx.cell 0
                clear hjn HRE HWR HLT
                go_upto_region 8 with fail
                have HX : Hid (∀ W', w7.drew.grownBy W' (some (w.heap.size + 1 + 1 + 1)) -> Below w.heap.size w W' /\ Blk W' w.heap.size 39 #[.slice V acc.length cv] /\ Blk W' (w.heap.size + 1) 3 #[.int .i64 0] /\ Blk W' (w.heap.size + 1 + 1) 28 #[.int .i64 0]) := fun W' hg =>
                  have hI := HI7.out.below (Below.refl _ _).drew
                  ⟨hI.bel.grown hg hI.bel.size (fun k hk => by injection hk with hk; omega), hI.gbx.grown hg (fun e => by injection e with e; omega), hI.abx.grown hg (fun e => by injection e with e; omega), hI.xbx.grown hg (fun e => by injection e with e; omega)⟩
                refine wp_region_p (m := 25) (X := fun ch W' => ch = [{ v := faultV (posL s l3), recovered := false }] /\ Below w.heap.size w W' /\ Blk W' w.heap.size 39 #[.slice V acc.length cv] /\ Blk W' (w.heap.size + 1) 3 #[.int .i64 0] /\ Blk W' (w.heap.size + 1 + 1) 28 #[.int .i64 0]) (fun W => Blk W w.heap.size 39 #[.slice V acc.length cv]) (· == 9) (by kernel_rfl) ?_ (by kernel_rfl) ⟨rfl, fun _ _ => rfl⟩ ?_
                · rintro ch W' ⟨tm, df⟩ ⟨rfl, hb4, d1, d2, d3⟩ ⟨hdf, htm⟩
                  have t2 := htm 2 (by omega)
                  have t3 := htm 3 (by omega)
                  have t4 := htm 4 (by omega)
                  simp only at hdf t2 t3 t4
                  subst hdf
                  clear htm HX HI7 HAL g0
                  simp only [Exit.then, Exit.inBlock]
                  refine leaves_cons (f := 66) (args := #[.pointer (some ⟨w.heap.size + 1, 0, none⟩), .pointer (some ⟨w.heap.size + 1 + 1, 0, none⟩)]) (by simp) (by simp [go_sem]) ?_
                  refine (rules1_fault (posL s l3) (w.heap.size + 1) (w.heap.size + 1 + 1) W' _ _ _ _ d2 d3 (by omega)).mono ?_
                  rintro e u' w8 ⟨rfl, rfl, hw8⟩
                  have c1 : Blk w8 w.heap.size 39 #[.slice V acc.length cv] := by
                    rw [hw8]
                    exact (((d1).far (show w.heap.size ≠ w.heap.size + 1 by omega) _).far (show w.heap.size ≠ w.heap.size + 1 + 1 by omega) _).alloc _
                  have c2 : Blk w8 (w.heap.size + 1) 3 #[.int .i64 ((posL s l3) : Int)] := by
                    rw [hw8]
                    exact (((d2).set_ 0 _).far (show w.heap.size + 1 ≠ w.heap.size + 1 + 1 by omega) _).alloc _
                  have c3 : Blk w8 (w.heap.size + 1 + 1) 28 #[.int .i64 4] := by
                    rw [hw8]
                    exact (((d3).far (show w.heap.size + 1 + 1 ≠ w.heap.size + 1 by omega) _).set_ 0 _).alloc _
                  have c4 : Below w.heap.size w w8 := by
                    rw [hw8]
                    exact (((hb4).setCell (show w.heap.size <= w.heap.size + 1 by omega) _).setCell (show w.heap.size <= w.heap.size + 1 + 1 by omega) _).alloc (by have := (d1).lt; simp [World.setCell]; omega) _
                  clear hw8
                  have q0 := c1.cell 0
                  have q7 := c2.cell 0
                  have q8 := c3.cell 0
                  clear c1 c2 c3
                  simp [Leaves, settle, results, Tryd.results32, go_sem, t2, t3, t4, q0, q7, q8]
                  exact HQ.out.2 _ _ _ _ _ HW.out c4
                · have hC : Blk w7.drew w.heap.size 39 #[.slice V acc.length cv] := HI7.out.gbx.drew
                  have hrd := HI7.out.rd.below (Below.refl _ _).drew
                  have HP := Lib.hid (HAL.out _ hrd)
                  clear hrd HAL HI7
                  generalize w7.drew = wd at hC HP HX ⊢
                  apply LP.rd (i := 0) rfl (by kernel_rfl) hC rfl
                  · intro W hW
                    skip
                    unfold readW
                    go_simp
                    first | rfl | exact ⟨rfl, rfl⟩
                  first | simp only [Act.put, p1, p2, p3] | skip
                  apply LP.rd (i := 1) rfl (by kernel_rfl) hC rfl
                  · intro W hW
                    have n0 := hW.cell 0
                    unfold readW
                    go_simp
                    first | rfl | exact ⟨rfl, rfl⟩
                  first | simp only [Act.put, p1, p2, p3] | skip
                  apply LP.rd (i := 2) rfl (by kernel_rfl) hC rfl
                  · intro W hW
                    skip
                    unfold readW
                    go_simp
                    first | rfl | exact ⟨rfl, rfl⟩
                  first | simp only [Act.put, p1, p2, p3] | skip
                  apply LP.rd (i := 3) rfl (by kernel_rfl) hC rfl
                  · intro W hW
                    skip
                    unfold readW
                    go_simp
                    first | rfl | exact ⟨rfl, rfl⟩
                  first | simp only [Act.put, p1, p2, p3] | skip
                  apply LP.one (i := 4) rfl (by kernel_rfl) rfl
                  unfold stepP
                  go_simp
                  go_at_call 63
                  refine HP.out.mono ?_
                  rintro e w8 ⟨hg8, rfl⟩
                  exact .inr ⟨_, rfl, rfl, HX.out _ hg8⟩
              | ok b l3 =>
                have hjn2 : (if (tokL l3).isFin = true then some (Gs.ok (acc ++ [(nm, b)])) else grJ n' (acc ++ [(nm, b)]) l3) = some R := hjn
                have HJN := Lib.hid hjn2
                have hl3 := HLT.out b l3 rfl
                have g0 := HI7.out.gbx.cell 0
                clear hjn hjn2 HLT
                go_upto_region 8 with fail
                refine wp_region_l (fun W => Blk W w.heap.size 39 #[.slice V acc.length cv]) (· == 9) (by kernel_rfl) ?_
                have hC : Blk w7.drew w.heap.size 39 #[.slice V acc.length cv] := HI7.out.gbx.drew
                have HI8 := Lib.hid (HI7.out.below (Below.refl _ _).drew)
                have HP := Lib.hid (HAL.out _ HI8.out.rd)
                have hlo8 : w.heap.size + 1 + 1 + 1 + 1 <= w7.drew.heap.size := HI8.out.rd.blk.lt
                have hold8 : ∀ q, (Value.slice V acc.length cv).ownBlock = some q -> q < w7.drew.heap.size := HI8.out.rus.old
                have HOLD := Lib.hid hold8
                clear HAL HI7 hold8 g0
                generalize w7.drew = wd at hC HP HI8 hlo8 HOLD ⊢
                apply L.rd (i := 0) rfl (by kernel_rfl) hC rfl
                · intro W hW
                  skip
                  unfold readW
                  go_simp
                  first | rfl | exact ⟨rfl, rfl⟩
                first | simp only [Act.put, p1, p2, p3] | skip
                apply L.rd (i := 1) rfl (by kernel_rfl) hC rfl
                · intro W hW
                  have n0 := hW.cell 0
                  unfold readW
                  go_simp
                  first | rfl | exact ⟨rfl, rfl⟩
                first | simp only [Act.put, p1, p2, p3] | skip
                apply L.rd (i := 2) rfl (by kernel_rfl) hC rfl
                · intro W hW
                  skip
                  unfold readW
                  go_simp
                  first | rfl | exact ⟨rfl, rfl⟩
                first | simp only [Act.put, p1, p2, p3] | skip
                apply L.rd (i := 3) rfl (by kernel_rfl) hC rfl
                · intro W hW
                  skip
                  unfold readW
                  go_simp
                  first | rfl | exact ⟨rfl, rfl⟩
                first | simp only [Act.put, p1, p2, p3] | skip
                apply L.one (i := 4) rfl (by kernel_rfl) rfl
                unfold stepT
                go_simp
                go_at_call 63
                refine HP.out.mono ?_
                rintro e w8 ⟨hg8, ⟨cs, rfl, hE⟩, hr8⟩
                have HI9 := Lib.hid (HI8.out.went hg8 hr8 (by omega))
                have hone := ex_one' hE.is
                obtain ⟨k1, a1, b1, c1, d1, t1, A1, n1, cp1, rfl⟩ := Ex.parts _ hE.is
                have hfew := HI8.out.few
                have hs8 := hg8.size
                clear HP HI8 hg8 hr8
                refine ⟨_, rfl, HI9.out.gbx, ?_⟩
                have hC := HI9.out.gbx
                first | simp only [Act.put, p1, p2, p3] | skip
                apply L.rd (i := 5) rfl (by kernel_rfl) hC rfl
                · intro W hW
                  skip
                  unfold readW
                  go_simp
                  first | rfl | exact ⟨rfl, rfl⟩
                first | simp only [Act.put, p1, p2, p3] | skip
                apply L.one (i := 6) rfl (by kernel_rfl) rfl
                unfold stepT
                go_simp
                have hE1 := hE.allocR (.cells #[.string nm, .int .i64 k1, .int .u64 a1, .int .u64 b1, .int .u64 c1, .int .u64 d1, .string t1, .slice A1 n1 cp1] 71)
                have hkb : Blk (w8.alloc (.cells #[.string nm, .int .i64 k1, .int .u64 a1, .int .u64 b1, .int .u64 c1, .int .u64 d1, .string t1, .slice A1 n1 cp1] 71)) w8.heap.size 71 #[.string nm, .int .i64 k1, .int .u64 a1, .int .u64 b1, .int .u64 c1, .int .u64 d1, .string t1, .slice A1 n1 cp1] := blk_at rfl
                have hI10 := HI9.out.below ((Below.refl _ _).alloc (Nat.le_refl _) (.cells #[.string nm, .int .i64 k1, .int .u64 a1, .int .u64 b1, .int .u64 c1, .int .u64 d1, .string t1, .slice A1 n1 cp1] 71))
                have hb10 : w.heap.size + 1 + 1 + 1 + 1 <= (w8.alloc (.cells #[.string nm, .int .i64 k1, .int .u64 a1, .int .u64 b1, .int .u64 c1, .int .u64 d1, .string t1, .slice A1 n1 cp1] 71)).heap.size := by simp; omega
                generalize (w8.alloc (.cells #[.string nm, .int .i64 k1, .int .u64 a1, .int .u64 b1, .int .u64 c1, .int .u64 d1, .string t1, .slice A1 n1 cp1] 71)) = wk at hE1 hkb hI10 hb10 ⊢
                generalize w8.heap.size = kb at hkb ⊢
                have hal : acc.length <= 100000 := by omega
                have hf3 : acc.length + 1 + l3.length <= s.size + 1 := by omega
                clear hC hE HI9 hs8
                have hC := hI10.gbx
                refine ⟨hC, ?_⟩
                first | simp only [Act.put, p1, p2, p3] | skip
                apply L.one (i := 7) rfl (by kernel_rfl) rfl
                refine stepT_append_at (.tmp 26) (.tmp 31) 37 rfl (w.heap.size + 1 + 1 + 1 + 1) 71 i0 _ 8 96 Tryd.underlying37 hi0 hz0 hz1 hz2 rfl (by decide) (.slice V acc.length cv) acc.length (ruF acc rows 0) (by simp [Act.eval]) hI10.rus.own ⟨kb, 0, none⟩ 1 1 [.string nm, .int .i64 k1, .int .u64 a1, .int .u64 b1, .int .u64 c1, .int .u64 d1, .string t1, .slice A1 n1 cp1] (by simp [Act.eval]) rfl (fun i u hu => by rw [cell_add]; exact (hkb.cell i).trans (by rw [List.getElem?_toArray]; exact hu)) (fun u hu => by
                  rcases List.mem_cons.1 hu with rfl | hu
                  · rfl
                  · exact hone u hu) (by unfold maxLen; omega) (by omega) hb10 ?_
                intro v' w9 hown hgr hat
                obtain ⟨V3, c3, rfl⟩ := own_form hown
                have hI11 := hI10.push (r := (nm, b)) hlo8 HOLD.out HNS.out hE1 hown hgr hat hf3
                have hC9 := hC.grown hgr (hI10.ne (by omega))
                clear hC
                have hC := hC9
                refine ⟨fun _ => hC, ?_⟩
                first | simp only [Act.put, p1, p2, p3] | skip
                apply L.rd (i := 8) rfl (by kernel_rfl) hC rfl
                · intro W hW
                  skip
                  unfold readW
                  go_simp
                  first | rfl | exact ⟨rfl, rfl⟩
                first | simp only [Act.put, p1, p2, p3] | skip
                have n0 := hC.cell 0
                have f0 := hC.frozen 0
                apply L.one (i := 9) rfl (by kernel_rfl) rfl
                unfold stepT
                go_simp
                refine L.done (by kernel_rfl) ?_
                have HI11 := Lib.hid hI11
                clear hC hC9 n0 f0 hown hgr hat hkb hE1 hI10 hI11 hone hb10 HOLD hlo8 hal hf3 hfew hnx1 hnx2 hl3
                have HL1 : Hid ((acc ++ [(nm, b)]).length = acc.length + 1) := by
                  show _ = _
                  simp
                generalize (acc ++ [(nm, b)]) = acc2 at HJN HI11 HL1
                generalize acc.length + 1 = n2 at HL1 HI11 ⊢
                generalize (w9.setCell ⟨w.heap.size, 0, none⟩ (.slice V3 n2 c3)) = w10 at HI11 ⊢
                have HOV := Lib.hid (over_any s true (w.heap.size + 1 + 1 + 1) l3 w10 HI11.out.rd)
                cases hfin : (tokL l3).isFin with
                | true =>
                  have HRE : Hid (R = .ok acc2) := by
                    have := HJN.out
                    rw [if_pos hfin] at this
                    exact (Option.some.inj this).symm
                  have HW : Hid (WholeG s.data.toList (.ok acc2)) := by
                    show WholeG _ _
                    rw [<- HRE.out]
                    exact HWR.out
                  rw [hfin] at HOV
                  have x1 : Blk w10 w.heap.size 39 #[.slice V3 n2 c3] := by
                    have := HI11.out.gbx
                    rw [HL1.out] at this
                    exact this
                  have x2 := HI11.out.abx
                  have x3 := HI11.out.xbx
                  have y0 := x1.cell 0
                  have f0 := x1.frozen 0
                  have y7 := x2.cell 0
                  have f7 := x2.frozen 0
                  have y8 := x3.cell 0
                  have f8 := x3.frozen 0
                  have g1 : Blk ((w10.setCell ⟨w.heap.size, 0, none⟩ (.slice V3 n2 c3)).setCell ⟨w.heap.size + 1, 0, none⟩ (.int .i64 0)) w.heap.size 39 #[.slice V3 n2 c3] := (x1.set_ 0 (.slice V3 n2 c3)).far (p := ⟨w.heap.size + 1, 0, none⟩) (show w.heap.size ≠ w.heap.size + 1 by omega) (.int .i64 0)
                  have k1' := g1.far (p := ⟨w.heap.size + 1 + 1, 0, none⟩) (show w.heap.size ≠ w.heap.size + 1 + 1 by omega) (.int .i64 0)
                  have k2 : Blk (((w10.setCell ⟨w.heap.size, 0, none⟩ (.slice V3 n2 c3)).setCell ⟨w.heap.size + 1, 0, none⟩ (.int .i64 0)).setCell ⟨w.heap.size + 1 + 1, 0, none⟩ (.int .i64 0)) (w.heap.size + 1) 3 #[.int .i64 0] := ((x2.far (p := ⟨w.heap.size, 0, none⟩) (show w.heap.size + 1 ≠ w.heap.size by omega) (.slice V3 n2 c3)).set_ 0 (.int .i64 0)).far (p := ⟨w.heap.size + 1 + 1, 0, none⟩) (show w.heap.size + 1 ≠ w.heap.size + 1 + 1 by omega) (.int .i64 0)
                  have k3 : Blk (((w10.setCell ⟨w.heap.size, 0, none⟩ (.slice V3 n2 c3)).setCell ⟨w.heap.size + 1, 0, none⟩ (.int .i64 0)).setCell ⟨w.heap.size + 1 + 1, 0, none⟩ (.int .i64 0)) (w.heap.size + 1 + 1) 28 #[.int .i64 0] := ((x3.far (p := ⟨w.heap.size, 0, none⟩) (show w.heap.size + 1 + 1 ≠ w.heap.size by omega) (.slice V3 n2 c3)).far (p := ⟨w.heap.size + 1, 0, none⟩) (show w.heap.size + 1 + 1 ≠ w.heap.size + 1 by omega) (.int .i64 0)).set_ 0 (.int .i64 0)
                  have k4 := ((HI11.out.bel.setCell (p := ⟨w.heap.size, 0, none⟩) (Nat.le_refl w.heap.size) (.slice V3 n2 c3)).setCell (p := ⟨w.heap.size + 1, 0, none⟩) (show w.heap.size <= w.heap.size + 1 by omega) (.int .i64 0)).setCell (p := ⟨w.heap.size + 1 + 1, 0, none⟩) (show w.heap.size <= w.heap.size + 1 + 1 by omega) (.int .i64 0)
                  have k5 := ((HI11.out.rus.far (k := w.heap.size) (by omega) 0 (.slice V3 n2 c3)).far (k := w.heap.size + 1) (by omega) 0 (.int .i64 0)).far (k := w.heap.size + 1 + 1) (by omega) 0 (.int .i64 0)
                  have HK := Lib.hid (And.intro k1' (And.intro k2 (And.intro k3 (And.intro k4 k5))))
                  clear g1 k1' k2 k3 k4 k5 x1 x2 x3 HI11 HRE HJN HWR hfin HNS
                  go_wp2_with fail
                  refine HOV.out.mono ?_
                  rintro e w11 ⟨rfl, hw11⟩
                  subst w11
                  go_wp2
                  have hK := HK.out
                  clear HK y0 f0 y7 f7 y8 f8 HOV
                  generalize (((w10.setCell ⟨w.heap.size, 0, none⟩ (.slice V3 n2 c3)).setCell ⟨w.heap.size + 1, 0, none⟩ (.int .i64 0)).setCell ⟨w.heap.size + 1 + 1, 0, none⟩ (.int .i64 0)) = w12 at hK ⊢
                  obtain ⟨k1', k2, k3, k4, k5⟩ := hK
                  refine leaves_cons (f := 66) (args := #[.pointer (some ⟨w.heap.size + 1, 0, none⟩), .pointer (some ⟨w.heap.size + 1 + 1, 0, none⟩)]) (by simp) (by simp [go_sem]) ?_
                  refine (rules1_idle (w.heap.size + 1) (w.heap.size + 1 + 1) w12).mono ?_
                  rintro e u' w13 ⟨rfl, rfl, hw13⟩
                  subst w13
                  have q0 := k1'.cell 0
                  have q7 := k2.cell 0
                  have q8 := k3.cell 0
                  simp [Leaves, settle, results, Tryd.results32, go_sem, q0, q7, q8]
                  have := HQ.out.1 acc2 V3 c3 _ w12 HW.out k4 k5
                  rw [HL1.out] at this
                  exact this
                | false =>
                  rw [hfin] at HOV
                  have HJ2 : Hid (grJ n' acc2 l3 = some R) := by
                    have := HJN.out
                    rw [if_neg (by rw [hfin]; decide)] at this
                    exact this
                  clear hfin HJN HNS
                  go_wp2_with fail
                  refine HOV.out.mono ?_
                  rintro e w11 ⟨rfl, hw11⟩
                  subst w11
                  go_wp2
                  go_roundg n'
                  case rel => exact ⟨acc2, V3, c3, _, l3, HI11, by omega, HJ2.out⟩
                  case measure => omega
end Go.Proofs.YtndhbdbfjkmloaaDoor
