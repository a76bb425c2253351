/- A region that draws its order: operations that only read (each has one value in all worlds of a class) are taken first; of the others all that may come up are looked at, one by one; operations may be late: behind them the class need not hold. Books, walks: quote.Undec and quote.Unlit of any text; book.one. Drawn regions (QSpl): a read is taken first also where late operations wait for it through others. -/
import Derived.Test.YtndhbdbfjkmloaaGreatDoorJTopBook12
import Derived.Laws.OwnMore
import Derived.Deep.RegionLawGrows
import Derived.Test.YtndhbdbfjkmloaaGreatDoorJTopBook0
import Derived.Lib.SmallJoins
namespace Go.Proofs.YtndhbdbfjkmloaaGreatDoor

section
variable {P : Program} {ops : Array Oper} {md : Region.Mode} {C : World → Prop} {late : Nat → Bool} {Q : Exit → Act → World → Prop}
/-- a step that does not fall out of the way -/
def stepT (P : Program) (o : Oper) (a : Act) (w : World) (K : Act → World → Prop) : Prop := match (execOp a.eval o).run P w with
  | .ok (.value u) w' => K (a.put o.dst u) w'
  | .ok .skip w' => K (a.put o.dst undef) w'
  | .ok (.enter f args) w' => Calls P f args w' (fun e w'' => ∃ v, e = .returned v ∧ K (a.put o.dst v) w'')
  | _ => False
theorem stepT.wp {o : Oper} {a : Act} {w : World} {K : Act → World → Prop} (h : stepT P o a w K) : o.wp P a w K Q := by
  unfold stepT at h
  unfold Oper.wp
  generalize (execOp a.eval o).run P w = r at *
  cases r with
  | ok n w' =>
    cases n <;> simp only at h <;> simp only [Oper.upon]
    case value u => exact h
    case skip => exact h
    case enter f args => exact h.mono fun e w'' ⟨v, he, hw''⟩ => by subst he; exact hw''
  | halt x w' => simp only at h
theorem stepT.mono {o : Oper} {a : Act} {w : World} {K K' : Act → World → Prop} (hK : ∀ a w, K a w → K' a w) (h : stepT P o a w K) : stepT P o a w K' := by
  unfold stepT at *
  generalize (execOp a.eval o).run P w = r at *
  cases r with
  | ok n w' =>
    cases n <;> simp only at h ⊢
    case value u => exact hK _ _ h
    case skip => exact hK _ _ h
    case enter f args => exact h.mono fun e w'' ⟨v, he, hw''⟩ => ⟨v, he, hK _ _ hw''⟩
  | halt x w' => simp only at h
/-- a read: this value, in the world that it got -/
def readW (P : Program) (o : Oper) (a : Act) (w : World) (v : Value) : Prop := match (execOp a.eval o).run P w with
  | .ok (.value u) w' => w' = w ∧ u = v
  | .ok .skip w' => w' = w ∧ v = undef
  | _ => False
def ReadC (P : Program) (ops : Array Oper) (C : World → Prop) (o : Oper) (v : Value) (a : Act) : Prop :=
  (Region.wanted o (yielded ops a.tmps) = true ∧ ∀ w, C w → readW P o a w v) ∨ (Region.wanted o (yielded ops a.tmps) = false ∧ v = undef)
def goesI (P : Program) (ops : Array Oper) (i : Nat) (K : Act → World → Prop) (a : Act) (w : World) : Prop := match ops[i]? with
  | none => K a w
  | some o => if Region.wanted o (yielded ops a.tmps) then stepT P o a w K else K (a.put o.dst undef) w
theorem goesI.mono {i : Nat} {a : Act} {w : World} {K K' : Act → World → Prop} (hK : ∀ a w, K a w → K' a w) (h : goesI P ops i K a w) : goesI P ops i K' a w := by
  unfold goesI at *
  split
  · rename_i ho; simp only [ho] at h; exact hK _ _ h
  · rename_i o ho
    simp only [ho] at h
    split
    · rename_i hw; simp only [hw, if_true] at h; exact stepT.mono hK h
    · rename_i hw; simp only [hw] at h; exact hK _ _ h
/-- whatever order is picked from here on -/
def wpAnyL2 (P : Program) (md : Region.Mode) (ops : Array Oper) (C : World → Prop) (late : Nat → Bool) (Q : Exit → Act → World → Prop) : Nat → Array Bool → Act → World → Prop
  | 0, listed, a, w => Region.ready md ops listed = [] ∧ Q .normal a w
  | f + 1, listed, a, w => (Region.ready md ops listed = [] → Q .normal a w) ∧ ∀ i ∈ Region.ready md ops listed, goesI P ops i (fun a' w' => (late i = false → C w') ∧ wpAnyL2 P md ops C late Q f (listed.setIfInBounds i true) a' w') a w
theorem wpAny_of_L : ∀ (f : Nat) (listed : Array Bool) (a : Act) (w : World), wpAnyL2 P md ops C late Q f listed a w → wpAny P md ops Q f listed a w
  | 0, _, _, _, h => h
  | f + 1, listed, a, w, h => ⟨h.1, fun i hi => by
      have h1 := h.2 i hi
      unfold goesI at h1
      unfold wpOp
      split
      · rename_i ho; simp only [ho] at h1; exact wpAny_of_L f _ _ _ h1.2
      · rename_i o ho
        simp only [ho] at h1
        split
        · rename_i hw
          simp only [hw, if_true] at h1
          exact .inl (Oper.wp_mono (fun a' w' h2 => wpAny_of_L f _ _ _ h2.2) (stepT.wp h1))
        · rename_i hw
          simp only [hw] at h1
          exact wpAny_of_L f _ _ _ h1.2⟩
theorem ReadC.of_same {o : Oper} {v : Value} {a a' : Act} (hy : ReadC P ops C o v a) (he : execOp a'.eval o = execOp a.eval o)
    (hw : Region.wanted o (yielded ops a'.tmps) = Region.wanted o (yielded ops a.tmps)) : ReadC P ops C o v a' := by
  unfold ReadC readW at *
  rw [he, hw]
  exact hy
theorem ReadC.goes {i : Nat} {o : Oper} {v : Value} {a : Act} {w : World} (hi : ops[i]? = some o) (hC : C w) (hy : ReadC P ops C o v a) {K : Act → World → Prop} (h : K (a.put o.dst v) w) : goesI P ops i K a w := by
  unfold goesI
  simp only [hi]
  rcases hy with ⟨hw, hv⟩ | ⟨hw, rfl⟩
  · simp only [hw, if_true]
    have h1 := hv w hC
    unfold readW at h1
    unfold stepT
    generalize (execOp a.eval o).run P w = r at *
    cases r with
    | ok n w' =>
      cases n <;> simp only at h1 ⊢
      case value u => obtain ⟨rfl, rfl⟩ := h1; exact h
      case skip => obtain ⟨rfl, rfl⟩ := h1; exact h
    | halt x w' => simp only at h1
  · simp only [hw, Bool.false_eq_true, if_false]; exact h
/-- one operation apart from a read: it makes no difference whether the read's value is there already -/
theorem goesI_put {j : Nat} {oi oj : Oper} {v : Value} (hj : ops[j]? = some oj) (hap : oi.apart ops oj = true)
    (hsi : ∀ cs b, oi.op ≠ .select cs b) (hsj : ∀ cs b, oj.op ≠ .select cs b) {K : Act → World → Prop} {a : Act} {w : World}
    (hy : ReadC P ops C oi v a) (h : goesI P ops j K (a.put oi.dst v) w) :
    goesI P ops j (fun a' w' => ReadC P ops C oi v a' ∧ K (a'.put oi.dst v) w') a w := by
  obtain ⟨h1, h2, h3⟩ := Oper.apart_spec hap
  have keep : ∀ u, ReadC P ops C oi v (a.put oj.dst u) := fun u =>
    hy.of_same (execOp_put oi hsi a oj.dst u h3) (wanted_put oi a oj.dst u h3)
  have hcm : ∀ u, (a.put oi.dst v).put oj.dst u = (a.put oj.dst u).put oi.dst v := fun u => by rw [← Act.put_comm a v u h2]
  unfold goesI at *
  simp only [hj] at *
  rw [wanted_put oj a oi.dst v h1] at h
  split
  · rename_i hw
    simp only [hw, if_true] at h
    unfold stepT at *
    rw [execOp_put oj hsj a oi.dst v h1] at h
    generalize (execOp a.eval oj).run P w = r at *
    cases r with
    | ok n w' =>
      cases n <;> simp only at h ⊢
      case value u => exact ⟨keep u, by rw [← hcm u]; exact h⟩
      case skip => exact ⟨keep _, by rw [← hcm undef]; exact h⟩
      case enter f args => exact h.mono fun e w'' ⟨u, he, hw''⟩ => ⟨u, he, keep u, by rw [← hcm u]; exact hw''⟩
    | halt x w' => simp only at h
  · rename_i hw
    simp only [hw] at h
    exact ⟨keep _, by rw [← hcm undef]; exact h⟩
/-- the same for what does not look at the world -/
theorem firstLp {i : Nat} {oi : Oper} {v : Value} (hl : late i = true) (hi : ops[i]? = some oi) (hsel : ∀ (j : Nat) (o : Oper) cs b, ops[j]? = some o → o.op ≠ .select cs b) :
    ∀ (fuel : Nat) (listed : Array Bool) (a : Act) (w : World),
      (∀ j oj, ops[j]? = some oj → j ≠ i → listed.getD j true = false → (∀ e ∈ oj.after, Region.binds md e = true → e.on ≠ i) → oi.apart ops oj = true) →
      i ∈ Region.ready md ops listed → ReadC P ops (fun _ => True) oi v a →
      wpAnyL2 P md ops C late Q fuel (listed.setIfInBounds i true) (a.put oi.dst v) w → wpAnyL2 P md ops C late Q (fuel + 1) listed a w := by
  intro fuel
  induction fuel with
  | zero =>
    intro listed a w _ hr hy H
    refine ⟨fun h => (by rw [h] at hr; cases hr), fun j hj => ?_⟩
    by_cases hji : j = i
    · subst hji; exact hy.goes hi trivial ⟨fun h => (by rw [hl] at h; cases h), H⟩
    · have := ready_mono hj hji
      rw [H.1] at this
      cases this
  | succ fuel ih =>
    intro listed a w hfree hr hy H
    refine ⟨fun h => (by rw [h] at hr; cases hr), fun j hj => ?_⟩
    by_cases hji : j = i
    · subst hji; exact hy.goes hi trivial ⟨fun h => (by rw [hl] at h; cases h), H⟩
    · have h1 := H.2 j (ready_mono hj hji)
      obtain ⟨hjun, oj, hoj, hall⟩ := mem_ready.1 hj
      have hnot : ∀ e ∈ oj.after, Region.binds md e = true → e.on ≠ i := fun e he hb heq => by
        have h1 := hall e he hb
        have h0 := (mem_ready.1 hr).1
        rw [heq] at h1
        rcases Nat.lt_or_ge i listed.size with h' | h'
        · simp [h'] at h0 h1; rw [h0] at h1; cases h1
        · simp [Array.getElem?_eq_none h'] at h1
      have h2 := goesI_put hoj (hfree j oj hoj hji hjun hnot) (fun cs b => hsel i oi cs b hi) (fun cs b => hsel j oj cs b hoj) hy h1
      have hfree' : ∀ k ok, ops[k]? = some ok → k ≠ i → (listed.setIfInBounds j true).getD k true = false →
          (∀ e ∈ ok.after, Region.binds md e = true → e.on ≠ i) → oi.apart ops ok = true := fun k ok hk hki hun hno => by
        refine hfree k ok hk hki ?_ hno
        by_cases hjk : j = k
        · subst hjk; exact hjun
        · rw [getD_set_ne true hjk] at hun; exact hun
      refine goesI.mono (fun a' w' h3 => ⟨h3.2.1, ih (listed.setIfInBounds j true) a' w' hfree' (ready_mono hr (Ne.symm hji)) h3.1 ?_⟩) h2
      rw [Array.setIfInBounds_comm _ _ hji]
      exact h3.2.2

/-- a read behind what is late: it does not look at the world -/
theorem L.rdl {f i : Nat} {o : Oper} {listed : Array Bool} {a : Act} {w : World} (hi : ops.toList[i]? = some o) (hb : (Region.noSelect ops && (Region.ready md ops listed).contains i && Region.free md ops listed i && late i) = true) (hg : o.guard = none) {v : Value} (hy : ∀ W, readW P o a W v)
    (h : wpAnyL2 P md ops C late Q f (listed.setIfInBounds i true) (a.put o.dst v) w) : wpAnyL2 P md ops C late Q (f + 1) listed a w := by
  rw [Array.getElem?_toList] at hi
  simp only [Bool.and_eq_true] at hb
  exact firstLp hb.2 hi (Region.noSelect_spec hb.1.1.1) f listed a w (Region.free_spec hi hb.1.2) (by simpa using hb.1.1.2) (.inl ⟨by simp [Region.wanted, hg], fun W _ => hy W⟩) h
/-- one alone may come up -/
theorem L.one {f i : Nat} {o : Oper} {listed : Array Bool} {a : Act} {w : World} (hi : ops.toList[i]? = some o) (hb : decide (Region.ready md ops listed = [i]) = true) (hg : o.guard = none)
    (h : stepT P o a w (fun a' w' => (late i = false → C w') ∧ wpAnyL2 P md ops C late Q f (listed.setIfInBounds i true) a' w')) : wpAnyL2 P md ops C late Q (f + 1) listed a w := by
  rw [Array.getElem?_toList] at hi
  have hb := of_decide_eq_true hb
  refine ⟨fun h => (by rw [hb] at h; cases h), fun j hj => ?_⟩
  rw [hb] at hj
  obtain rfl : j = i := by simpa using hj
  unfold goesI
  simp only [hi]
  rw [if_pos (by simp [Region.wanted, hg])]
  exact h
theorem L.done {f : Nat} {listed : Array Bool} {a : Act} {w : World} (hb : (Region.ready md ops listed).isEmpty = true) (h : Q .normal a w) : wpAnyL2 P md ops C late Q f listed a w := by
  have hb := List.isEmpty_iff.1 hb
  cases f with
  | zero => exact ⟨hb, h⟩
  | succ f => exact ⟨fun _ => h, fun i hi => by rw [hb] at hi; cases hi⟩
/-- the region: whatever order the tape picks -/
theorem wp_region_l {id : Nat} {a : Act} {w : World} {l : List Oper} (C : World → Prop) (late : Nat → Bool) (hm : P.follows .mixedOrders = true)
    (h : wpAnyL2 P .any l.toArray C late Q l.toArray.size (Array.replicate l.toArray.size false) a w.drew) : (Code.region id l.toArray true).wp P Q a w :=
  wp_region_any hm (wpAny_of_L _ _ _ _ h)
end
end Go.Proofs.YtndhbdbfjkmloaaGreatDoor
namespace Go.Proofs.YtndhbdbfjkmloaaGreatDoor
open Go.RowKit

/-- the library's variable holds an int -/
def MaxP (w : World) : Prop := ∃ m, w.cell? ⟨0, 0, none⟩ = some (.int .i64 m)
/-- an error variable of the library's -/
def ErrP (k : Nat) (w : World) : Prop := ∃ ev, w.cell? ⟨k, 0, none⟩ = some ev ∧ (ev = .nilIface ∨ ∃ te pe, ev = .iface te pe)
theorem MaxP.on {w w' : World} (h : MaxP w) (hb : Below w.heap.size w w') : MaxP w' := by
  obtain ⟨m, hm⟩ := h
  exact ⟨m, (hb.cell (p := ⟨_, 0, none⟩) (World.block_lt_of_cell? w _ hm)).trans hm⟩
theorem ErrP.on {k : Nat} {w w' : World} (h : ErrP k w) (hb : Below w.heap.size w w') : ErrP k w' := by
  obtain ⟨m, hm, hv⟩ := h
  exact ⟨m, (hb.cell (p := ⟨_, 0, none⟩) (World.block_lt_of_cell? w _ hm)).trans hm, hv⟩
/-- what of the library's variables the books want -/
structure LibP (w : World) : Prop where
  pow : TabP w
  max : MaxP w
  syn : ErrP 4 w
  ran : ErrP 5 w
theorem LibP.on {w w' : World} (h : LibP w) (hb : Below w.heap.size w w') : LibP w' := ⟨h.pow.on hb, h.max.on hb, h.syn.on hb, h.ran.on hb⟩

set_option maxRecDepth 100000 in
theorem qdec_all (n : Int) (hn : I64 n) (w : World) (hT : TabP w) : Calls Tryz.prog 17 #[.int .i64 n] w fun e w' => e = .returned (.string (itoaB n)) ∧ Below w.heap.size w w' := by
  obtain ⟨h0, h1⟩ := hn
  have hi := sh_strconv_Itoa n h0 h1 w hT
  have HI := Lib.hid hi
  clear hi hT
  go_enter Tryz.func17, Tryz.ntmps17
  go_wp2_with fail
  refine HI.out.mono ?_
  rintro e w1 ⟨rfl, k, os, rfl⟩
  have hb := grow_below2 w k os
  generalize Sort.grow (w.drewN k) os = w1 at hb ⊢
  go_wp2
  go_ret
  exact ⟨rfl, hb⟩
theorem atoi_belowx {w w' : World} (h : w' = w ∨ ∃ t, w' = Lib.bytesWorld w 5 t) : Below w.heap.size w w' := by
  rcases h with rfl | ⟨t, rfl⟩
  · exact Below.refl _ _
  · exact Joins.below_bytesWorld _ _ _ _ (Nat.le_refl _)
def undV : Option Int → Value
  | some v => .tuple #[.int .i64 v, .int .i64 0]
  | none => .tuple #[.int .i64 0, .int .i64 3]
set_option maxRecDepth 100000 in
set_option maxHeartbeats 4000000 in
theorem undec_all (s : ByteArray) (hs : s.size ≤ 2000) (w : World) (hT : LibP w) : Calls Tryz.prog 32 #[.string s] w fun e w' => e = .returned (undV (undR s.data.toList)) ∧ Below w.heap.size w w' := by
  have hsl := size_list s
  obtain ⟨es, hes1, hes2⟩ := hT.syn
  obtain ⟨er, her1, her2⟩ := hT.ran
  cases ha : Lib.atoiAll s.data.toList with
  | ok v =>
    obtain ⟨v0, v1⟩ := Lib.atoiAll_bounds ha
    have hA := sh_strconv_Atoi_ok s (by omega) v ha w
    have HI := Lib.hid (fun W (hW : Below w.heap.size w W) => (sh_strconv_Itoa v v0 v1 W (hT.pow.on hW)).mono (R' := fun e w' => e = .returned (.string (itoaB v)) ∧ Below W.heap.size W w') fun e w' ⟨he, k, os, hk⟩ => ⟨he, by rw [hk]; exact grow_below2 _ _ _⟩)
    have HA := Lib.hid hA
    have hne : (Lib.itoa v ≠ s.data.toList) ↔ ¬ (itoaB v).toList = s.toList := by
      rw [ByteArray.toList_eq, ByteArray.toList_eq]
      exact Iff.rfl
    have hun : undR s.data.toList = if 9 < s.size ∨ v < 0 ∨ Lib.itoa v ≠ s.data.toList then none else some v := by unfold undR; rw [ha, hsl]
    clear hA ha hT hes1 hes2 her1 her2
    by_cases h9 : 9 < s.size
    · have h9i : (9 : Int) < (s.size : Int) := by omega
      rw [hun, if_pos (.inl h9)]
      clear hun
      clear hne HI
      go_enter Tryz.func32, Tryz.ntmps32
      go_wp2_with fail
      refine HA.out.mono ?_
      rintro e w1 ⟨rfl, hw⟩
      have hb := atoi_belowx hw
      clear hw
      go_wp2
      go_ret2
      exact ⟨rfl, hb⟩
    have h9i : ¬ (9 : Int) < (s.size : Int) := by omega
    by_cases hv0 : v < 0
    · rw [hun, if_pos (.inr (.inl hv0))]
      clear hun
      clear hne HI
      go_enter Tryz.func32, Tryz.ntmps32
      go_wp2_with fail
      refine HA.out.mono ?_
      rintro e w1 ⟨rfl, hw⟩
      have hb := atoi_belowx hw
      clear hw
      go_wp2
      go_ret2
      exact ⟨rfl, hb⟩
    by_cases hq : Lib.itoa v ≠ s.data.toList
    · have hq2 := hne.1 hq
      rw [hun, if_pos (.inr (.inr hq))]
      clear hun
      clear hne hq
      generalize itoaB v = t at HI hq2
      have hq3 : (t.toList == s.toList) = false := by rw [beq_eq_false_iff_ne]; exact hq2
      go_enter Tryz.func32, Tryz.ntmps32
      go_wp2_with fail
      refine HA.out.mono ?_
      rintro e w1 ⟨rfl, hw⟩
      have hb := atoi_belowx hw
      clear hw
      go_wp2_with fail
      refine (HI.out _ hb).mono ?_
      rintro e w2 ⟨rfl, hb2⟩
      have hb3 := hb.trans (hb2.mono hb.size)
      go_wp2
      go_ret2
      exact ⟨rfl, hb3⟩
    · have hq2 : (itoaB v).toList = s.toList := Classical.byContradiction fun h => hq (hne.2 h)
      rw [hun, if_neg (by rintro (h | h | h) <;> contradiction)]
      clear hun
      clear hne hq
      generalize itoaB v = t at HI hq2
      go_enter Tryz.func32, Tryz.ntmps32
      go_wp2_with fail
      refine HA.out.mono ?_
      rintro e w1 ⟨rfl, hw⟩
      have hb := atoi_belowx hw
      clear hw
      go_wp2_with fail
      refine (HI.out _ hb).mono ?_
      rintro e w2 ⟨rfl, hb2⟩
      have hb3 := hb.trans (hb2.mono hb.size)
      go_wp2
      go_ret2
      exact ⟨rfl, hb3⟩
  | «syntax» =>
    have hA := (sh_strconv_Atoi_syntax s (by omega) ha es w hes1 hes2).mono (R' := fun e w' => (∃ N : Nat, e = .returned (.tuple #[.int .i64 0, .iface 152 (.pointer (some ⟨N, 0, none⟩))])) ∧ Below w.heap.size w w') fun e w' ⟨N, he, _, _, hb⟩ => ⟨⟨N, he⟩, hb⟩
    have HA := Lib.hid hA
    rw [show undR s.data.toList = none from by unfold undR; rw [ha]]
    clear hA ha hT hes1 hes2 her1 her2
    go_enter Tryz.func32, Tryz.ntmps32
    go_wp2_with fail
    refine HA.out.mono ?_
    rintro e w1 ⟨⟨N, rfl⟩, hb⟩
    go_wp2
    go_ret2
    exact ⟨rfl, hb⟩
  | range =>
    obtain ⟨sb0, sb1⟩ := Lib.atoiSat_bounds s.data.toList
    have hA := (sh_strconv_Atoi_range s (by omega) ha er w her1 her2).mono (R' := fun e w' => (∃ N : Nat, e = .returned (.tuple #[.int .i64 (Lib.atoiSat s.data.toList), .iface 152 (.pointer (some ⟨N, 0, none⟩))])) ∧ Below w.heap.size w w') fun e w' ⟨N, he, _, _, hb⟩ => ⟨⟨N, he⟩, hb⟩
    generalize Lib.atoiSat s.data.toList = sat at hA sb0 sb1
    have HA := Lib.hid hA
    rw [show undR s.data.toList = none from by unfold undR; rw [ha]]
    clear hA ha hT hes1 hes2 her1 her2
    go_enter Tryz.func32, Tryz.ntmps32
    go_wp2_with fail
    refine HA.out.mono ?_
    rintro e w1 ⟨⟨N, rfl⟩, hb⟩
    go_wp2
    go_ret2
    exact ⟨rfl, hb⟩

theorem unl_len (q : Nat) (sg : List UInt8) : ∀ (f : Nat) (l o : List UInt8) (c : Nat), unl q sg f l = some (o, c) → o.length ≤ f
  | 0, l, o, c, h => by cases h
  | f + 1, [], o, c, h => by cases h
  | f + 1, b :: l, o, c, h => by
    rw [unl_step _ _ _ (by simp)] at h
    split at h
    · injection h with h; injection h with h1 h2; subst h1; simp
    · split at h
      · cases h
      · cases hx : unl q sg f ((b :: l).drop (nextN sg (b :: l)).2) with
        | none => rw [hx] at h; cases h
        | some y =>
          rw [hx] at h
          have := unl_len q sg f _ y.1 y.2 hx
          simp only [Option.map_some] at h
          injection h with h; injection h with h1 h2
          subst h1
          simp
          omega
/-- what quote.Unlit answers -/
def UnlQ (r : Option (List UInt8 × Nat)) (w : World) (e : Ending) (w' : World) : Prop := Below w.heap.size w w' ∧ e = match r with
  | some (o, c) => .returned (.tuple #[.string ⟨o.toArray⟩, .int .i64 ((1 + c : Nat) : Int), .int .i64 0])
  | none => .returned (.tuple #[.string ⟨#[]⟩, .int .i64 0, .int .i64 4])
set_option maxRecDepth 100000 in
theorem unlit_whole (s : ByteArray) (hs : s.size ≤ 2000) (w : World) : Calls Tryz.prog 33 #[.string s] w (UnlQ (unlR s.data.toList) w) := by
  have hsl := size_list s
  unfold unlR
  by_cases hq : bt s.data.toList 0 = 39 ∨ bt s.data.toList 0 = 34
  · have h0 : 0 < s.size := by
      rcases Nat.eq_zero_or_pos s.size with h | h
      · have : s.data.toList = [] := List.eq_nil_of_length_eq_zero (by omega)
        rw [this] at hq
        rcases hq with hq | hq <;> cases hq
      · exact h
    rw [if_pos hq, hsl]
    cases hx : unl (bt s.data.toList 0) sgU.data.toList s.size (s.data.toList.drop 1) with
    | none => exact (unlit_no s w (by omega) h0 _ rfl hq (by omega) hx).mono fun e w' ⟨h, hb⟩ => ⟨hb, h⟩
    | some y =>
      obtain ⟨o, c⟩ := y
      have := unl_len _ _ _ _ _ _ hx
      exact (unlit_yes s w (by omega) h0 _ rfl hq o c hx (by omega)).mono fun e w' ⟨h, hb⟩ => ⟨hb, h⟩
  · rw [if_neg hq]
    have HQ : Hid (∀ w', Below w.heap.size w w' → UnlQ none w (.returned (.tuple #[.string ⟨#[]⟩, .int .i64 0, .int .i64 4])) w') := fun w' h => ⟨h, rfl⟩
    generalize UnlQ none w = Q at HQ ⊢
    rcases Nat.eq_zero_or_pos s.size with h0 | h0
    · have hl : s.data.toList = [] := List.eq_nil_of_length_eq_zero (by omega)
      have hne : s.toList.isEmpty = true := by rw [ByteArray.toList_eq, hl]; rfl
      clear hq hl
      go_enter Tryz.func33, Tryz.ntmps33
      go_wp2
      go_ret3
      exact HQ.out _ (Below.refl _ _)
    · have hb0 := bt_of h0
      have hne : s.toList.isEmpty = false := by
        rw [ByteArray.toList_eq]
        cases h : s.data.toList with
        | nil => rw [h] at hsl; simp at hsl; omega
        | cons => rfl
      generalize bt s.data.toList 0 = x at hb0 hq
      have b1 : ((x : Int) != 39) = true := by rw [bne_iff_ne]; omega
      have b2 : ((x : Int) != 34) = true := by rw [bne_iff_ne]; omega
      clear hq
      go_enter Tryz.func33, Tryz.ntmps33
      go_wp2
      go_ret3
      exact HQ.out _ (Below.refl _ _)
end Go.Proofs.YtndhbdbfjkmloaaGreatDoor
namespace Go.Proofs.YtndhbdbfjkmloaaGreatDoor

section
variable {P : Program} {ops : Array Oper} {md : Region.Mode} {C : World → Prop} {late : Nat → Bool} {Q : Exit → Act → World → Prop}
/-- of what is listed all is listed that it waits for -/
def Closed (md : Region.Mode) (ops : Array Oper) (listed : Array Bool) : Prop := ∀ (j : Nat) (oj : Oper), ops[j]? = some oj → listed.getD j false = true → ∀ e ∈ oj.after, Region.binds md e = true → listed.getD e.on false = true
def closedB (md : Region.Mode) (ops : Array Oper) (listed : Array Bool) : Bool := (List.range ops.size).all fun j => match ops[j]? with
  | some oj => !(listed.getD j false) || oj.after.all fun e => !(Region.binds md e) || listed.getD e.on false
  | none => true
theorem closedB_spec {listed : Array Bool} (h : closedB md ops listed = true) : Closed md ops listed := by
  intro j oj hj hl e he hb
  unfold closedB at h
  have h1 := List.all_eq_true.1 h j (List.mem_range.2 (Array.getElem?_eq_some_iff.1 hj).1)
  simp only [hj, hl, Bool.not_true, Bool.false_or] at h1
  have h2 := Array.all_eq_true'.1 h1 e he
  simpa [hb] using h2
/-- does one operation wait for another, maybe through others? -/
def waitsT (md : Region.Mode) (ops : Array Oper) : Nat → Nat → Nat → Bool
  | 0, _, _ => false
  | f + 1, j, i => match ops[j]? with
    | some oj => oj.after.any fun e => Region.binds md e && (e.on == i || waitsT md ops f e.on i)
    | none => false
theorem waitsT_step {f j i : Nat} (h : waitsT md ops (f + 1) j i = true) : ∃ oj, ops[j]? = some oj ∧ ∃ e ∈ oj.after, Region.binds md e = true ∧ (e.on = i ∨ waitsT md ops f e.on i = true) := by
  unfold waitsT at h
  split at h
  · rename_i oj hj
    obtain ⟨e, he, hb⟩ := Array.any_eq_true'.1 h
    simp only [Bool.and_eq_true, Bool.or_eq_true, beq_iff_eq] at hb
    exact ⟨oj, hj, e, he, hb.1, hb.2⟩
  · cases h
theorem waitsT_listed {listed : Array Bool} (hc : Closed md ops listed) : ∀ (f j i : Nat), waitsT md ops f j i = true → listed.getD j false = true → listed.getD i false = true
  | 0, _, _, h, _ => by cases h
  | f + 1, j, i, h, hl => by
    obtain ⟨oj, hj, e, he, hb, h1⟩ := waitsT_step h
    have h2 := hc j oj hj hl e he hb
    rcases h1 with h1 | h1
    · rw [← h1]; exact h2
    · exact waitsT_listed hc f _ _ h1 h2
theorem waitsT_ready {listed : Array Bool} (hc : Closed md ops listed) {f j i : Nat} (h : waitsT md ops f j i = true) (hr : j ∈ Region.ready md ops listed) : listed.getD i false = true := by
  cases f with
  | zero => cases h
  | succ f =>
    obtain ⟨oj, hj, e, he, hb, h1⟩ := waitsT_step h
    obtain ⟨_, o', ho', hall⟩ := mem_ready.1 hr
    rw [hj] at ho'
    injection ho' with ho'
    subst ho'
    have h2 := hall e he hb
    rcases h1 with h1 | h1
    · rw [← h1]; exact h2
    · exact waitsT_listed hc f _ _ h1 h2
/-- a move: it leaves the world as it is -/
def stillB (ops : Array Oper) (j : Nat) : Bool := match ops[j]? with
  | some o => (match o.op with
    | .move _ => true
    | _ => false)
  | none => false
theorem goesI_still {j : Nat} (h : stillB ops j = true) {K : Act → World → Prop} {a : Act} {w : World} (hg : goesI P ops j K a w) : goesI P ops j (fun a' w' => w' = w ∧ K a' w') a w := by
  unfold stillB at h
  unfold goesI at *
  cases ho : ops[j]? with
  | none => rw [ho] at h; cases h
  | some o =>
    rw [ho] at h
    simp only [ho] at hg ⊢
    split
    · rename_i hw
      simp only [hw, if_true] at hg
      cases hop : o.op with
      | move x =>
        unfold stepT at *
        simp only [execOp, hop] at hg ⊢
        exact ⟨by trivial, hg⟩
      | _ => simp [hop] at h
    · rename_i hw
      simp only [hw] at hg
      exact ⟨by trivial, hg⟩
def lateT (md : Region.Mode) (ops : Array Oper) (late : Nat → Bool) (i : Nat) : Bool := (List.range ops.size).all fun j => !late j || waitsT md ops ops.size j i || stillB ops j
theorem lateT_spec {i : Nat} (h : lateT md ops late i = true) {listed : Array Bool} (hc : Closed md ops listed) (hi : listed.getD i true = false) : ∀ j, late j = true → j ∈ Region.ready md ops listed → stillB ops j = true := by
  intro j hj hr
  obtain ⟨_, oj, hoj, _⟩ := mem_ready.1 hr
  unfold lateT at h
  have h1 := List.all_eq_true.1 h j (List.mem_range.2 (Array.getElem?_eq_some_iff.1 hoj).1)
  rw [hj] at h1
  simp only [Bool.not_true, Bool.false_or, Bool.or_eq_true] at h1
  rcases h1 with h1 | h1
  rotate_left
  · exact h1
  have h2 := waitsT_ready hc h1 hr
  rcases Nat.lt_or_ge i listed.size with h' | h'
  · simp [h'] at hi h2; rw [hi] at h2; cases h2
  · simp [Array.getElem?_eq_none h'] at h2
theorem Closed.set {listed : Array Bool} (hc : Closed md ops listed) {j : Nat} (hr : j ∈ Region.ready md ops listed) : Closed md ops (listed.setIfInBounds j true) := by
  intro k ok hk hl e he hb
  by_cases hkj : k = j
  · subst hkj
    obtain ⟨_, o', ho', hall⟩ := mem_ready.1 hr
    rw [hk] at ho'
    injection ho' with ho'
    subst ho'
    exact getD_set_true (hall e he hb)
  · rw [getD_set_ne false (Ne.symm hkj)] at hl
    exact getD_set_true (hc k ok hk hl e he hb)
theorem firstT {i : Nat} {oi : Oper} {v : Value} (hlate : lateT md ops late i = true) (hi : ops[i]? = some oi) (hsel : ∀ (j : Nat) (o : Oper) cs b, ops[j]? = some o → o.op ≠ .select cs b) :
    ∀ (fuel : Nat) (listed : Array Bool) (a : Act) (w : World), C w → Closed md ops listed →
      (∀ j oj, ops[j]? = some oj → j ≠ i → listed.getD j true = false → (∀ e ∈ oj.after, Region.binds md e = true → e.on ≠ i) → oi.apart ops oj = true) →
      i ∈ Region.ready md ops listed → ReadC P ops C oi v a →
      wpAnyL2 P md ops C late Q fuel (listed.setIfInBounds i true) (a.put oi.dst v) w → wpAnyL2 P md ops C late Q (fuel + 1) listed a w := by
  intro fuel
  induction fuel with
  | zero =>
    intro listed a w hC _ _ hr hy H
    refine ⟨fun h => (by rw [h] at hr; cases hr), fun j hj => ?_⟩
    by_cases hji : j = i
    · subst hji; exact hy.goes hi hC ⟨fun _ => hC, H⟩
    · have := ready_mono hj hji
      rw [H.1] at this
      cases this
  | succ fuel ih =>
    intro listed a w hC hcl hfree hr hy H
    refine ⟨fun h => (by rw [h] at hr; cases hr), fun j hj => ?_⟩
    by_cases hji : j = i
    · subst hji; exact hy.goes hi hC ⟨fun _ => hC, H⟩
    · have h1 : goesI P ops j (fun a' w' => (late j = false → C w') ∧ C w' ∧ wpAnyL2 P md ops C late Q fuel ((listed.setIfInBounds i true).setIfInBounds j true) a' w') (a.put oi.dst v) w := by
        have h0 := H.2 j (ready_mono hj hji)
        cases hl : late j with
        | false => rw [hl] at h0; exact goesI.mono (fun a' w' h => ⟨h.1, h.1 rfl, h.2⟩) h0
        | true =>
          have hst := lateT_spec hlate hcl (mem_ready.1 hr).1 j hl hj
          exact goesI.mono (fun a' w' h => ⟨fun h => (by cases h), by rw [h.1]; exact hC, h.2.2⟩) (goesI_still hst h0)
      obtain ⟨hjun, oj, hoj, hall⟩ := mem_ready.1 hj
      have hnot : ∀ e ∈ oj.after, Region.binds md e = true → e.on ≠ i := fun e he hb heq => by
        have h1 := hall e he hb
        have h0 := (mem_ready.1 hr).1
        rw [heq] at h1
        rcases Nat.lt_or_ge i listed.size with h' | h'
        · simp [h'] at h0 h1; rw [h0] at h1; cases h1
        · simp [Array.getElem?_eq_none h'] at h1
      have h2 := goesI_put hoj (hfree j oj hoj hji hjun hnot) (fun cs b => hsel i oi cs b hi) (fun cs b => hsel j oj cs b hoj) hy h1
      have hfree' : ∀ k ok, ops[k]? = some ok → k ≠ i → (listed.setIfInBounds j true).getD k true = false →
          (∀ e ∈ ok.after, Region.binds md e = true → e.on ≠ i) → oi.apart ops ok = true := fun k ok hk hki hun hno => by
        refine hfree k ok hk hki ?_ hno
        by_cases hjk : j = k
        · subst hjk; exact hjun
        · rw [getD_set_ne true hjk] at hun; exact hun
      refine goesI.mono (fun a' w' h3 => ⟨h3.2.1, ih (listed.setIfInBounds j true) a' w' (h3.2.2.1) (hcl.set hj) hfree' (ready_mono hr (Ne.symm hji)) h3.1 ?_⟩) h2
      rw [Array.setIfInBounds_comm _ _ hji]
      exact h3.2.2.2
theorem L.rdt {f i : Nat} {o : Oper} {listed : Array Bool} {a : Act} {w : World} (hi : ops.toList[i]? = some o) (hb : (Region.noSelect ops && (Region.ready md ops listed).contains i && Region.free md ops listed i && lateT md ops late i && closedB md ops listed) = true) (hC : C w) (hg : o.guard = none) {v : Value} (hy : ∀ W, C W → readW P o a W v)
    (h : wpAnyL2 P md ops C late Q f (listed.setIfInBounds i true) (a.put o.dst v) w) : wpAnyL2 P md ops C late Q (f + 1) listed a w := by
  rw [Array.getElem?_toList] at hi
  simp only [Bool.and_eq_true] at hb
  exact firstT hb.1.2 hi (Region.noSelect_spec hb.1.1.1.1) f listed a w hC (closedB_spec hb.2) (Region.free_spec hi hb.1.1.2) (by simpa using hb.1.1.1.2) (.inl ⟨by simp [Region.wanted, hg], hy⟩) h
end
end Go.Proofs.YtndhbdbfjkmloaaGreatDoor
