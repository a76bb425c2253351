/- pack.At, pack.Run: what they answer. pack.Run: what it answers. Events are built to trees: plain. What event.Build holds in memory: the stack of what is open. A region that draws its order: operations that are quiet in a class of worlds, then one that all of them feed (a call that turns the world), then others that are quiet behind it: one walk of the text's order serves. A region that draws its order: operations that only read (each has one value in all worlds of a class) are taken first; of the others all that may come up are looked at, one by one; operations may be late: behind them the class need not hold. Drawn regions (QSpl): a read is taken first also where late operations wait for it through others. -/
import Derived.Test.YtkmcnekjimobhaaDoorJTreeCounts10
import Derived.Test.YtkmcnekjimobhaaDoorJTreeCounts5
import Derived.Laws.OwnMore
import Derived.Test.YtkmcnekjimobhaaDoorJTreeCounts4
import Derived.Deep.RegionLawGrows
import Derived.Test.YtkmcnekjimobhaaDoorJTreeCounts0
namespace Go.Proofs.YtkmcnekjimobhaaDoor
open Go.RowKit Go.Maps

/-- it comes to this -/
def Sem (g : List Rl) (s : List UInt8) (e : Ex) (p : Nat) (o : Option Nat) : Prop := ∃ n, ev g s n e p = some o
theorem agree0 (g : List Rl) (s : List UInt8) : Agree g s ps0 := fun i p o h => by cases h
theorem bound0 (L : Nat) : Bound L ps0 := fun i p n h => by cases h
theorem look_zero {g : List Rl} {s : ByteArray} (h : lookG g s = 0) : WellG g ∧ s.size ≤ 60 := by
  unfold lookG at h
  split at h
  · rename_i hc; exact absurd h hc
  rename_i hc
  split at h
  · simp at h
  · exact ⟨well_of (by simpa using hc), by omega⟩
theorem sixty_of {g : List Rl} (R : RightG g) : ∀ r ∈ g, nodes r.2 ≤ 60 := fun r hr => nodes_le (R.body r hr)
/-- a parser made of a grammar that is well is fit -/
theorem PC.fit {c : PC} (W : WellG c.g) (h60 : c.s.size ≤ 60) (hok : c.Ok) (hk : c.hk = false) (hl : c.lim = 1000000000000) (hh : c.hook = .nilFunc) (hwf : ∀ r ∈ c.g, WfE r.2) : c.Fit :=
  ⟨hok, .inl ⟨hk, hh⟩, by have := W.right.ten; omega, by rw [show c.s.data.toList.length = c.s.size from size_list _]; omega, fun r hr => ⟨W.right.rt r hr, hwf r hr⟩, fun i r hr => by
    have h1 := firstN_le (sixty_of W.right) i
    have h2 := (sixty_of W.right) r (List.mem_of_getElem? hr)
    have h3 := getElem?_lt hr
    have h4 := W.right.ten
    omega⟩

end Go.Proofs.YtkmcnekjimobhaaDoor
namespace Go.Proofs.YtkmcnekjimobhaaDoor
open Go.RowKit Go.Maps

end Go.Proofs.YtkmcnekjimobhaaDoor
namespace Go.Proofs.YtkmcnekjimobhaaDoor

/-- what is open: a rule, where it began, the kids so far (the last one opened comes first) -/
abbrev Fr := Int × Int × List Tr
def bld : List Ev → List Fr → Option Tr
  | [], _ => none
  | (k, r, a) :: es, st =>
    if k = 1 then bld es ((r, a, []) :: st)
    else match st with
      | [] => none
      | (r', f, ks) :: st' =>
        if k = 2 ∧ r' = r then
          match st' with
          | [] => if es = [] then some (.mk r' f a ks) else none
          | (r2, f2, ks2) :: st2 => bld es ((r2, f2, ks2 ++ [.mk r' f a ks]) :: st2)
        else none

end Go.Proofs.YtkmcnekjimobhaaDoor
namespace Go.Proofs.YtkmcnekjimobhaaDoor
open Go.RowKit

/-- the cells of trees, one behind the other -/
def KidsAre (w : World) (S : Nat → Prop) : List Tr → List Value → Prop
  | [], xs => xs = []
  | t :: ts, xs => ∃ c rest, xs = c ++ rest ∧ TrIs w S t c ∧ KidsAre w S ts rest
theorem KidsAre.snoc {w : World} {S : Nat → Prop} {t : Tr} {c : List Value} (ht : TrIs w S t c) : ∀ {ks : List Tr} {xs : List Value}, KidsAre w S ks xs → KidsAre w S (ks ++ [t]) (xs ++ c)
  | [], xs, h => by
    have h : xs = [] := h
    subst h
    exact ⟨c, [], by simp, ht, rfl⟩
  | t' :: ks, xs, h => by
    obtain ⟨c', rest, rfl, h1, h2⟩ := h
    exact ⟨c', rest ++ c, by simp, h1, h2.snoc ht⟩
theorem KidsAre.keep {w w' : World} {S S' : Nat → Prop} (hS : ∀ b, S b → S' b) (hk : ∀ p : Addr, S p.block → w'.cell? p = w.cell? p) : ∀ {ks : List Tr} {xs : List Value}, KidsAre w S ks xs → KidsAre w' S' ks xs
  | [], _, h => h
  | _ :: _, _, h => by
    obtain ⟨c, rest, rfl, h1, h2⟩ := h
    exact ⟨c, rest, rfl, h1.keep hS hk, KidsAre.keep hS hk h2⟩
theorem KidsAre.at_ {w : World} {S : Nat → Prop} : ∀ {ks : List Tr} {xs : List Value}, KidsAre w S ks xs → ∀ (i : Nat) (t : Tr), ks[i]? = some t → ∃ c, TrIs w S t c ∧ ∀ j u, c[j]? = some u → xs[i * 4 + j]? = some u
  | [], _, _, i, t, h => by simp at h
  | t' :: ks, xs, h, 0, t, ht => by
    obtain ⟨c, rest, rfl, h1, h2⟩ := h
    simp at ht
    subst ht
    exact ⟨c, h1, fun j u hu => by rw [Nat.zero_mul, Nat.zero_add, List.getElem?_append_left (getElem?_lt hu)]; exact hu⟩
  | t' :: ks, xs, h, i + 1, t, ht => by
    obtain ⟨c, rest, rfl, h1, h2⟩ := h
    obtain ⟨c', h3, h4⟩ := KidsAre.at_ h2 i t (by simpa using ht)
    have hl := h1.len
    exact ⟨c', h3, fun j u hu => by rw [List.getElem?_append_right (by omega), ← h4 j u hu, hl]; congr 1; omega⟩

/-- what is open: its cells (the first one opened ahead), and the blocks that hold their kids -/
def StackIs (w : World) (S : Nat → Prop) (base : Nat) : List Fr → List Value → List Nat → Prop
  | [], xs, used => xs = [] ∧ used = []
  | (r, f, ks) :: st, xs, used => ∃ ys A c kxs used', xs = ys ++ [.int .i64 r, .int .i64 f, .int .i64 0, .slice A ks.length c] ∧ w.ownsRow base 28 4 (.slice A ks.length c) ks.length kxs ∧ KidsAre w S ks kxs ∧
      used = (Value.slice A ks.length c).ownBlock.toList ++ used' ∧ StackIs w S base st ys used'
theorem own_heap {w w' : World} {base : Nat} {e : TypeId} {size : Nat} {v : Value} {n : Nat} {xs : List Value} (h : w.ownsRow base e size v n xs) (hk : ∀ b, v.ownBlock = some b → w'.heap[b]? = w.heap[b]?) : w'.ownsRow base e size v n xs := by
  refine ⟨h.1, h.2.imp id ?_⟩
  rintro ⟨g, cap, cur, rfl, h1, h2, h3⟩
  exact ⟨g, cap, cur, rfl, h1, (hk g rfl).trans h2, h3⟩
theorem StackIs.keep {w w' : World} {S S' : Nat → Prop} {base : Nat} (hS : ∀ b, S b → S' b) (hk : ∀ p : Addr, S p.block → w'.cell? p = w.cell? p) : ∀ {st : List Fr} {xs : List Value} {used : List Nat}, StackIs w S base st xs used → (∀ b ∈ used, w'.heap[b]? = w.heap[b]?) → StackIs w' S' base st xs used
  | [], _, _, h, _ => h
  | (r, f, ks) :: st, _, _, h, hu => by
    obtain ⟨ys, A, c, kxs, used', rfl, h1, h2, rfl, h3⟩ := h
    exact ⟨ys, A, c, kxs, used', rfl, own_heap h1 (fun b hb => hu b (by rw [hb]; simp)), h2.keep hS hk, rfl, StackIs.keep hS hk h3 fun b hb => hu b (by simp [hb])⟩
theorem StackIs.len {w : World} {S : Nat → Prop} {base : Nat} : ∀ {st : List Fr} {xs : List Value} {used : List Nat}, StackIs w S base st xs used → xs.length = st.length * 4
  | [], _, _, h => by rw [h.1]; rfl
  | (r, f, ks) :: st, _, _, h => by
    obtain ⟨ys, A, c, kxs, used', rfl, h1, h2, rfl, h3⟩ := h
    have := StackIs.len h3
    simp
    omega
theorem StackIs.lt {w : World} {S : Nat → Prop} {base : Nat} : ∀ {st : List Fr} {xs : List Value} {used : List Nat}, StackIs w S base st xs used → ∀ b ∈ used, base ≤ b ∧ b < w.heap.size
  | [], _, _, h => by rw [h.2]; simp
  | (r, f, ks) :: st, _, _, h => by
    obtain ⟨ys, A, c, kxs, used', rfl, h1, h2, rfl, h3⟩ := h
    intro b hb
    rcases List.mem_append.1 hb with hb | hb
    · exact h1.lt b (by simpa using hb)
    · exact StackIs.lt h3 b hb

/-- the memory of event.Build -/
structure BldMem (w : World) (base : Nat) (st : List Fr) (V : Option Addr) (m cp : Nat) (xs : List Value) (used : List Nat) (S : Nat → Prop) : Prop where
  cnt : m = st.length
  own : w.ownsRow base 28 4 (.slice V m cp) m xs
  stack : StackIs w S base st xs used
  nodup : used.Nodup
  ne : ∀ b ∈ used, some b ≠ (Value.slice V m cp).ownBlock
  sep : ∀ b, S b → b < w.heap.size ∧ b ∉ used ∧ some b ≠ (Value.slice V m cp).ownBlock
  low : ∀ b, S b → base ≤ b

theorem BldMem.below {w w' : World} {base : Nat} {st : List Fr} {V : Option Addr} {m cp : Nat} {xs : List Value} {used : List Nat} {S : Nat → Prop} (h : BldMem w base st V m cp xs used S) (hb : Below w.heap.size w w') : BldMem w' base st V m cp xs used S where
  cnt := h.cnt
  own := own_below h.own hb
  stack := h.stack.keep (fun _ h => h) (fun _ hp => hb.cell (h.sep _ hp).1) (fun b hu => hb.block b (h.stack.lt b hu).2)
  nodup := h.nodup
  ne := h.ne
  sep b hS := ⟨Nat.lt_of_lt_of_le (h.sep b hS).1 hb.size, (h.sep b hS).2⟩
  low := h.low
/-- one more is opened -/
theorem BldMem.push {w w' : World} {base : Nat} {st : List Fr} {V : Option Addr} {m cp : Nat} {xs : List Value} {used : List Nat} {S : Nat → Prop} (h : BldMem w base st V m cp xs used S) (r a : Int) {g cap : Nat}
    (hown : w'.ownsRow base 28 4 (.slice (some ⟨g, 0, none⟩) (m + 1) cap) (m + 1) (xs ++ [.int .i64 r, .int .i64 a, .int .i64 0, .slice none 0 0]))
    (hgrow : w.grownBy w' (Value.slice V m cp).ownBlock) (hat : (Value.slice V m cp).ownBlock = some g ∨ g = w.heap.size) :
    BldMem w' base ((r, a, []) :: st) (some ⟨g, 0, none⟩) (m + 1) cap (xs ++ [.int .i64 r, .int .i64 a, .int .i64 0, .slice none 0 0]) used S where
  cnt := by rw [h.cnt]; rfl
  own := hown
  stack := ⟨xs, none, 0, [], used, rfl, ⟨rfl, .inl ⟨rfl, rfl⟩⟩, rfl, by simp [Value.ownBlock], h.stack.keep (fun _ h => h) (fun _ hp => World.cell?_of_block (hgrow.block _ (h.sep _ hp).1 (h.sep _ hp).2.2)) (fun b hu => hgrow.block b (h.stack.lt b hu).2 (h.ne b hu))⟩
  nodup := h.nodup
  ne b hb e := by
    simp [Value.ownBlock] at e
    rcases hat with h1 | h1
    · exact h.ne b hb (by rw [h1, e])
    · have := (h.stack.lt b hb).2
      omega
  sep b hS := by
    obtain ⟨h1, h2, h3⟩ := h.sep b hS
    refine ⟨Nat.lt_of_lt_of_le h1 hgrow.size, h2, fun e => ?_⟩
    simp [Value.ownBlock] at e
    rcases hat with h4 | h4
    · exact h3 (by rw [h4, e])
    · omega
  low := h.low

end Go.Proofs.YtkmcnekjimobhaaDoor
namespace Go.Proofs.YtkmcnekjimobhaaDoor

/-- what comes behind n waits for n, or for what waits for it -/
def treeB (md : Region.Mode) (ops : Array Oper) (n : Nat) : Bool := (List.range ops.size).all fun t => decide (t ≤ n) || (List.range t).any fun s => decide (n ≤ s) && Region.waitsFor md ops t s
def lexMid (md : Region.Mode) (ops : Array Oper) : Nat → Nat → Array Bool → Bool
  | 0, k, listed => decide (Region.ready md ops listed = [k]) && Region.lexFrom md ops (ops.size - (k + 1)) (k + 1) (listed.setIfInBounds k true)
  | f + 1, k, listed => (Region.ready md ops listed).contains k && Region.free md ops listed k && lexMid md ops f (k + 1) (listed.setIfInBounds k true)
def midB (md : Region.Mode) (ops : Array Oper) (n : Nat) : Bool :=
  Region.noSelect ops && decide (n < ops.size) && Region.sinkB md ops n && treeB md ops n && lexMid md ops n 0 (Array.replicate ops.size false)

section
variable {P : Program} {ops : Array Oper} {md : Region.Mode} {C : World → Prop}
theorem midB_ready {k : Nat} {listed : Array Bool} (h : lexMid md ops 0 k listed = true) : ∀ j ∈ Region.ready md ops listed, k ≤ j := by
  intro j hj
  simp only [lexMid, Bool.and_eq_true, decide_eq_true_eq] at h
  rw [h.1] at hj
  have : j = k := by simpa using hj
  omega
theorem treeM_waits {n : Nat} {listed : Array Bool} (hs : Region.sinkB md ops n = true) (hc : treeB md ops n = true) (hn : n < ops.size) (inv : HeadInv md ops n listed) :
    ∀ (d i : Nat), n - i = d → i < n → listed.getD i true = false → ∀ t, n ≤ t → t ∉ Region.ready md ops listed := by
  intro d
  induction d using Nat.strongRecOn with
  | _ d ih =>
    intro i hd hi hun t ht hr
    obtain ⟨_, ot, hot, hall⟩ := mem_ready.1 hr
    have htlt : t < ops.size := (Array.getElem?_eq_some_iff.1 hot).1
    by_cases htn : t = n
    · subst htn
      have h1 := List.all_eq_true.1 hs i (List.mem_range.2 hi)
      obtain ⟨j, hj, hj2⟩ := List.any_eq_true.1 h1
      simp only [Bool.and_eq_true, decide_eq_true_eq] at hj2
      obtain ⟨oj, hoj, e, he, hb, hon⟩ := Region.waitsFor_spec hj2.2
      have hjle : j ≤ t := by have := List.mem_range.1 hj; omega
      by_cases hjt : j = t
      · subst hjt
        have : oj = ot := Option.some.inj (hoj.symm.trans hot)
        subst this
        have h2 := hall e he hb
        rw [hon, getD_both hun] at h2
        cases h2
      · cases hl : listed.getD j false with
        | true =>
          have h2 := inv.closed j oj hoj hl e he hb
          rw [hon, getD_both hun] at h2
          cases h2
        | false =>
          have hjs : j < listed.size := by rw [inv.size]; omega
          exact ih (t - j) (by omega) j rfl (by omega) (getD_in hjs hl) t (Nat.le_refl _) hr
    · have h1 := List.all_eq_true.1 hc t (List.mem_range.2 htlt)
      simp only [Bool.or_eq_true, decide_eq_true_eq] at h1
      rcases h1 with h1 | h1
      · omega
      · obtain ⟨s, hs1, hs2⟩ := List.any_eq_true.1 h1
        simp only [Bool.and_eq_true, decide_eq_true_eq] at hs2
        obtain ⟨o', ho', e, he, hb, hon⟩ := Region.waitsFor_spec hs2.2
        have : o' = ot := Option.some.inj (ho'.symm.trans hot)
        subst this
        have h2 := hall e he hb
        have hst := List.mem_range.1 hs1
        rw [hon, getD_both (inv.tail s hs2.1 (by omega))] at h2
        cases h2

theorem headM_first {n i : Nat} {oi : Oper} {v : Value} {L : Array Bool → Act → Prop} (hi : ops[i]? = some oi) (hsel : ∀ (j : Nat) (o : Oper) cs b, ops[j]? = some o → o.op ≠ .select cs b)
    (hs : Region.sinkB md ops n = true) (hc : treeB md ops n = true) (hn : n < ops.size) (hin : i < n)
    (hdone : ∀ listed a, L listed a → ∀ j ∈ Region.ready md ops listed, n ≤ j) (f : Nat) :
    ∀ (listed : Array Bool) (a : Act), HeadInv md ops n listed →
      (∀ j oj, ops[j]? = some oj → j ≠ i → listed.getD j true = false → (∀ e ∈ oj.after, Region.binds md e = true → e.on ≠ i) → oi.apart ops oj = true) →
      i ∈ Region.ready md ops listed → YieldsIn P ops C oi v a →
      headAny P md ops C n L f (listed.setIfInBounds i true) (a.put oi.dst v) → headAny P md ops C n L (f + 1) listed a := by
  induction f with
  | zero =>
    intro listed a inv _ hr hy H
    have hun := (mem_ready.1 hr).1
    refine ⟨List.ne_nil_of_mem hr, fun j hj => ?_⟩
    have hjn : j < n := Nat.lt_of_not_le fun h => treeM_waits hs hc hn inv _ i rfl hin hun j h hj
    refine ⟨hjn, ?_⟩
    by_cases hji : j = i
    · subst hji; exact hy.qOp hi H
    · have h1 := hdone _ _ H j (ready_mono hj hji)
      omega
  | succ f ih =>
    intro listed a inv hfree hr hy H
    have hun := (mem_ready.1 hr).1
    refine ⟨List.ne_nil_of_mem hr, fun j hj => ?_⟩
    have hjn : j < n := Nat.lt_of_not_le fun h => treeM_waits hs hc hn inv _ i rfl hin hun j h hj
    refine ⟨hjn, ?_⟩
    by_cases hji : j = i
    · subst hji; exact hy.qOp hi H
    · obtain ⟨hjun, oj, hoj, hall⟩ := mem_ready.1 hj
      have hnot : ∀ e ∈ oj.after, Region.binds md e = true → e.on ≠ i := fun e he hb heq => by
        have h1 := hall e he hb
        rw [heq, getD_both hun] at h1
        cases h1
      have h2 := qOp_put hoj (hfree j oj hoj hji hjun hnot) (fun cs b => hsel i oi cs b hi) (fun cs b => hsel j oj cs b hoj) hy (H.2 j (ready_mono hj hji)).2
      refine qOp_mono (fun a' h3 => ih (listed.setIfInBounds j true) a' (inv.set hj hjn) (fun k ok hk hki hu hno => ?_) (ready_mono hr (Ne.symm hji)) h3.1 ?_) h2
      · refine hfree k ok hk hki ?_ hno
        by_cases hjk : j = k
        · subst hjk; exact hjun
        · rw [getD_set_ne true hjk] at hu; exact hu
      · rw [Array.setIfInBounds_comm _ _ hji]
        exact h3.2

theorem headM_lex {n : Nat} {Lq : Act → Prop} (hsel : Region.noSelect ops = true) (hs : Region.sinkB md ops n = true) (hc : treeB md ops n = true) (hn : n < ops.size) :
    ∀ (l : List Oper) (k : Nat) (listed : Array Bool) (a : Act), (∀ j, j < l.length → l[j]? = ops[k + j]?) → k + l.length = n → HeadInv md ops n listed →
    lexMid md ops l.length k listed = true → wpQuiet P ops C Lq l a →
    headAny P md ops C n (fun listed' a' => lexMid md ops 0 n listed' = true ∧ Lq a') l.length listed a := by
  intro l
  induction l with
  | nil =>
    intro k listed a _ hk _ hB h
    obtain rfl : k = n := by simpa using hk
    exact ⟨hB, h⟩
  | cons o l ih =>
    intro k listed a hl hk inv hB h
    have h0 : ops[k]? = some o := by simpa using (hl 0 (by simp)).symm
    simp only [List.length_cons, lexMid, Bool.and_eq_true] at hB
    obtain ⟨⟨hr, hf⟩, hB'⟩ := hB
    have hkn : k < n := by simp only [List.length_cons] at hk; omega
    have hr' : k ∈ Region.ready md ops listed := by simpa using hr
    have hst : qOp P ops C k (wpQuiet P ops C Lq l) a := by unfold qOp; simp only [h0]; exact h
    obtain ⟨v, hy, hK⟩ := yieldsIn_of_qOp h0 hst
    refine headM_first h0 (Region.noSelect_spec hsel) hs hc hn hkn (fun listed' a' hL => midB_ready hL.1) l.length listed a inv (Region.free_spec h0 hf) hr' hy ?_
    exact ih (k + 1) _ _ (fun j hj => by have := hl (j + 1) (by simp; omega); simpa [Nat.add_assoc, Nat.add_comm 1 j] using this) (by simp only [List.length_cons] at hk; omega) (inv.set hr' hkn) hB' hK

/-- what is asked behind the one in the midst: from then on all is quiet in some class -/
def MidK (P : Program) (ops : Array Oper) (Q : Exit → Act → World → Prop) (rest : List Oper) (a : Act) (w : World) : Prop := ∃ C' : World → Prop, C' w ∧ QW P ops C' (fun a' => ∀ w', C' w' → Q .normal a' w') rest a
/-- the one in the midst: a call -/
def MidCall (P : Program) (o : Oper) (a : Act) (w : World) (K : Act → World → Prop) : Prop := match (execOp a.eval o).run P w with
  | .ok (.enter f args) w' => w' = w ∧ Calls P f args w (fun e w'' => ∃ v, e = .returned v ∧ K (a.put o.dst v) w'')
  | _ => False
theorem MidCall.wp {o : Oper} {a : Act} {w : World} {K : Act → World → Prop} {Q : Exit → Act → World → Prop} (h : MidCall P o a w K) : o.wp P a w K Q := by
  unfold MidCall at h
  unfold Oper.wp
  generalize (execOp a.eval o).run P w = r at *
  cases r with
  | ok n w' =>
    cases n <;> simp only at h <;> simp only [Oper.upon]
    case enter f args =>
      obtain ⟨e1, hc⟩ := h
      rw [e1]
      exact hc.mono fun e w'' ⟨v, he, hw''⟩ => by subst he; exact hw''
  | halt x w' => simp only at h

theorem wp_region_mid {id : Nat} {Q : Exit → Act → World → Prop} {a : Act} {w : World} {l : List Oper} (C : World → Prop) (n : Nat) (o : Oper) (ho : l[n]? = some o) (hg : o.guard = none) (hm : P.follows .mixedOrders = true) (hB : midB .any l.toArray n = true) (hC : C w.drew)
    (h : QW P l.toArray C (fun a' => ∀ w', C w' → MidCall P o a' w' (MidK P l.toArray Q (l.drop (n + 1)))) (l.take n) a) : (Code.region id l.toArray true).wp P Q a w := by
  simp only [midB, Bool.and_eq_true, decide_eq_true_eq] at hB
  obtain ⟨⟨⟨⟨hsel, hn⟩, hs⟩, hc⟩, hlex⟩ := hB
  have hn' : n < l.length := by simpa using hn
  have htl : (l.take n).length = n := by simp; omega
  have inv0 : HeadInv .any l.toArray n (Array.replicate l.toArray.size false) :=
    ⟨by simp, fun j oj _ hl => (by rw [getD_replicate_false] at hl; cases hl), fun t _ ht => getD_in (by simpa using ht) (getD_replicate_false _ _)⟩
  have H := headM_lex (md := .any) hsel hs hc hn (l.take n) 0 _ a (fun j hj => by
    rw [htl] at hj
    simp [hj]) (by simpa using htl) inv0 (by rw [htl]; exact hlex) h.out
  have h1 := any_of_head (Q' := Q) (g := (l.drop (n + 1)).length + 1) (fun listed a' w' hw' hL => by
    obtain ⟨hL1, hL2⟩ := hL
    simp only [lexMid, Bool.and_eq_true, decide_eq_true_eq] at hL1
    obtain ⟨hr, hlx⟩ := hL1
    refine ⟨fun h0 => (by rw [hr] at h0; cases h0), fun i hi => ?_⟩
    rw [hr] at hi
    obtain rfl : i = n := by simpa using hi
    unfold wpOp
    rw [show l.toArray[i]? = some o by simpa using ho]
    simp only
    rw [if_pos (by simp [Region.wanted, hg])]
    refine .inl (Oper.wp_mono (fun a'' w'' hk => ?_) (MidCall.wp (hL2 w' hw')))
    obtain ⟨C', hC', hq⟩ := hk
    refine wpAny_of_quiet (C := C') (Q := fun a' => ∀ w', C' w' → Q .normal a' w') (fun _ w' hw' h => h w' hw') _ _ _ _ hC' ?_
    exact wpAnyQ_lex (C := C') (md := .any) hsel (l.drop (i + 1)) (i + 1) _ a'' (fun j => by simp [List.getElem?_drop]) (by rw [List.length_drop]; rw [List.size_toArray] at hlx; exact hlx) hq.out) _ _ _ _ hC H
  rw [htl, List.length_drop, show n + (l.length - (n + 1) + 1) = l.toArray.size by rw [List.size_toArray]; omega] at h1
  exact wp_region_any hm h1
end
end Go.Proofs.YtkmcnekjimobhaaDoor
namespace Go.Proofs.YtkmcnekjimobhaaDoor

section
variable {P : Program} {ops : Array Oper} {md : Region.Mode} {C : World → Prop} {late : Nat → Bool} {Q : Exit → Act → World → Prop}
/-- a step that does not fall out of the way -/
def stepT (P : Program) (o : Oper) (a : Act) (w : World) (K : Act → World → Prop) : Prop := match (execOp a.eval o).run P w with
  | .ok (.value u) w' => K (a.put o.dst u) w'
  | .ok .skip w' => K (a.put o.dst undef) w'
  | .ok (.enter f args) w' => Calls P f args w' (fun e w'' => ∃ v, e = .returned v ∧ K (a.put o.dst v) w'')
  | _ => False
theorem stepT.wp {o : Oper} {a : Act} {w : World} {K : Act → World → Prop} (h : stepT P o a w K) : o.wp P a w K Q := by
  unfold stepT at h
  unfold Oper.wp
  generalize (execOp a.eval o).run P w = r at *
  cases r with
  | ok n w' =>
    cases n <;> simp only at h <;> simp only [Oper.upon]
    case value u => exact h
    case skip => exact h
    case enter f args => exact h.mono fun e w'' ⟨v, he, hw''⟩ => by subst he; exact hw''
  | halt x w' => simp only at h
theorem stepT.mono {o : Oper} {a : Act} {w : World} {K K' : Act → World → Prop} (hK : ∀ a w, K a w → K' a w) (h : stepT P o a w K) : stepT P o a w K' := by
  unfold stepT at *
  generalize (execOp a.eval o).run P w = r at *
  cases r with
  | ok n w' =>
    cases n <;> simp only at h ⊢
    case value u => exact hK _ _ h
    case skip => exact hK _ _ h
    case enter f args => exact h.mono fun e w'' ⟨v, he, hw''⟩ => ⟨v, he, hK _ _ hw''⟩
  | halt x w' => simp only at h
/-- a read: this value, in the world that it got -/
def readW (P : Program) (o : Oper) (a : Act) (w : World) (v : Value) : Prop := match (execOp a.eval o).run P w with
  | .ok (.value u) w' => w' = w ∧ u = v
  | .ok .skip w' => w' = w ∧ v = undef
  | _ => False
def ReadC (P : Program) (ops : Array Oper) (C : World → Prop) (o : Oper) (v : Value) (a : Act) : Prop :=
  (Region.wanted o (yielded ops a.tmps) = true ∧ ∀ w, C w → readW P o a w v) ∨ (Region.wanted o (yielded ops a.tmps) = false ∧ v = undef)
def goesI (P : Program) (ops : Array Oper) (i : Nat) (K : Act → World → Prop) (a : Act) (w : World) : Prop := match ops[i]? with
  | none => K a w
  | some o => if Region.wanted o (yielded ops a.tmps) then stepT P o a w K else K (a.put o.dst undef) w
theorem goesI.mono {i : Nat} {a : Act} {w : World} {K K' : Act → World → Prop} (hK : ∀ a w, K a w → K' a w) (h : goesI P ops i K a w) : goesI P ops i K' a w := by
  unfold goesI at *
  split
  · rename_i ho; simp only [ho] at h; exact hK _ _ h
  · rename_i o ho
    simp only [ho] at h
    split
    · rename_i hw; simp only [hw, if_true] at h; exact stepT.mono hK h
    · rename_i hw; simp only [hw] at h; exact hK _ _ h
/-- whatever order is picked from here on -/
def wpAnyL2 (P : Program) (md : Region.Mode) (ops : Array Oper) (C : World → Prop) (late : Nat → Bool) (Q : Exit → Act → World → Prop) : Nat → Array Bool → Act → World → Prop
  | 0, listed, a, w => Region.ready md ops listed = [] ∧ Q .normal a w
  | f + 1, listed, a, w => (Region.ready md ops listed = [] → Q .normal a w) ∧ ∀ i ∈ Region.ready md ops listed, goesI P ops i (fun a' w' => (late i = false → C w') ∧ wpAnyL2 P md ops C late Q f (listed.setIfInBounds i true) a' w') a w
theorem wpAny_of_L : ∀ (f : Nat) (listed : Array Bool) (a : Act) (w : World), wpAnyL2 P md ops C late Q f listed a w → wpAny P md ops Q f listed a w
  | 0, _, _, _, h => h
  | f + 1, listed, a, w, h => ⟨h.1, fun i hi => by
      have h1 := h.2 i hi
      unfold goesI at h1
      unfold wpOp
      split
      · rename_i ho; simp only [ho] at h1; exact wpAny_of_L f _ _ _ h1.2
      · rename_i o ho
        simp only [ho] at h1
        split
        · rename_i hw
          simp only [hw, if_true] at h1
          exact .inl (Oper.wp_mono (fun a' w' h2 => wpAny_of_L f _ _ _ h2.2) (stepT.wp h1))
        · rename_i hw
          simp only [hw] at h1
          exact wpAny_of_L f _ _ _ h1.2⟩
theorem ReadC.of_same {o : Oper} {v : Value} {a a' : Act} (hy : ReadC P ops C o v a) (he : execOp a'.eval o = execOp a.eval o)
    (hw : Region.wanted o (yielded ops a'.tmps) = Region.wanted o (yielded ops a.tmps)) : ReadC P ops C o v a' := by
  unfold ReadC readW at *
  rw [he, hw]
  exact hy
theorem ReadC.goes {i : Nat} {o : Oper} {v : Value} {a : Act} {w : World} (hi : ops[i]? = some o) (hC : C w) (hy : ReadC P ops C o v a) {K : Act → World → Prop} (h : K (a.put o.dst v) w) : goesI P ops i K a w := by
  unfold goesI
  simp only [hi]
  rcases hy with ⟨hw, hv⟩ | ⟨hw, rfl⟩
  · simp only [hw, if_true]
    have h1 := hv w hC
    unfold readW at h1
    unfold stepT
    generalize (execOp a.eval o).run P w = r at *
    cases r with
    | ok n w' =>
      cases n <;> simp only at h1 ⊢
      case value u => obtain ⟨rfl, rfl⟩ := h1; exact h
      case skip => obtain ⟨rfl, rfl⟩ := h1; exact h
    | halt x w' => simp only at h1
  · simp only [hw, Bool.false_eq_true, if_false]; exact h
/-- one operation apart from a read: it makes no difference whether the read's value is there already -/
theorem goesI_put {j : Nat} {oi oj : Oper} {v : Value} (hj : ops[j]? = some oj) (hap : oi.apart ops oj = true)
    (hsi : ∀ cs b, oi.op ≠ .select cs b) (hsj : ∀ cs b, oj.op ≠ .select cs b) {K : Act → World → Prop} {a : Act} {w : World}
    (hy : ReadC P ops C oi v a) (h : goesI P ops j K (a.put oi.dst v) w) :
    goesI P ops j (fun a' w' => ReadC P ops C oi v a' ∧ K (a'.put oi.dst v) w') a w := by
  obtain ⟨h1, h2, h3⟩ := Oper.apart_spec hap
  have keep : ∀ u, ReadC P ops C oi v (a.put oj.dst u) := fun u =>
    hy.of_same (execOp_put oi hsi a oj.dst u h3) (wanted_put oi a oj.dst u h3)
  have hcm : ∀ u, (a.put oi.dst v).put oj.dst u = (a.put oj.dst u).put oi.dst v := fun u => by rw [← Act.put_comm a v u h2]
  unfold goesI at *
  simp only [hj] at *
  rw [wanted_put oj a oi.dst v h1] at h
  split
  · rename_i hw
    simp only [hw, if_true] at h
    unfold stepT at *
    rw [execOp_put oj hsj a oi.dst v h1] at h
    generalize (execOp a.eval oj).run P w = r at *
    cases r with
    | ok n w' =>
      cases n <;> simp only at h ⊢
      case value u => exact ⟨keep u, by rw [← hcm u]; exact h⟩
      case skip => exact ⟨keep _, by rw [← hcm undef]; exact h⟩
      case enter f args => exact h.mono fun e w'' ⟨u, he, hw''⟩ => ⟨u, he, keep u, by rw [← hcm u]; exact hw''⟩
    | halt x w' => simp only at h
  · rename_i hw
    simp only [hw] at h
    exact ⟨keep _, by rw [← hcm undef]; exact h⟩
theorem firstL {i : Nat} {oi : Oper} {v : Value} (hlate : ∀ j, late j = true → ∀ listed : Array Bool, listed.getD i true = false → j ∉ Region.ready md ops listed) (hi : ops[i]? = some oi) (hsel : ∀ (j : Nat) (o : Oper) cs b, ops[j]? = some o → o.op ≠ .select cs b) :
    ∀ (fuel : Nat) (listed : Array Bool) (a : Act) (w : World), C w →
      (∀ j oj, ops[j]? = some oj → j ≠ i → listed.getD j true = false → (∀ e ∈ oj.after, Region.binds md e = true → e.on ≠ i) → oi.apart ops oj = true) →
      i ∈ Region.ready md ops listed → ReadC P ops C oi v a →
      wpAnyL2 P md ops C late Q fuel (listed.setIfInBounds i true) (a.put oi.dst v) w → wpAnyL2 P md ops C late Q (fuel + 1) listed a w := by
  intro fuel
  induction fuel with
  | zero =>
    intro listed a w hC _ hr hy H
    refine ⟨fun h => (by rw [h] at hr; cases hr), fun j hj => ?_⟩
    by_cases hji : j = i
    · subst hji; exact hy.goes hi hC ⟨fun _ => hC, H⟩
    · have := ready_mono hj hji
      rw [H.1] at this
      cases this
  | succ fuel ih =>
    intro listed a w hC hfree hr hy H
    refine ⟨fun h => (by rw [h] at hr; cases hr), fun j hj => ?_⟩
    by_cases hji : j = i
    · subst hji; exact hy.goes hi hC ⟨fun _ => hC, H⟩
    · have h1 := H.2 j (ready_mono hj hji)
      obtain ⟨hjun, oj, hoj, hall⟩ := mem_ready.1 hj
      have hnot : ∀ e ∈ oj.after, Region.binds md e = true → e.on ≠ i := fun e he hb heq => by
        have h1 := hall e he hb
        have h0 := (mem_ready.1 hr).1
        rw [heq] at h1
        rcases Nat.lt_or_ge i listed.size with h' | h'
        · simp [h'] at h0 h1; rw [h0] at h1; cases h1
        · simp [Array.getElem?_eq_none h'] at h1
      have h2 := goesI_put hoj (hfree j oj hoj hji hjun hnot) (fun cs b => hsel i oi cs b hi) (fun cs b => hsel j oj cs b hoj) hy h1
      have hfree' : ∀ k ok, ops[k]? = some ok → k ≠ i → (listed.setIfInBounds j true).getD k true = false →
          (∀ e ∈ ok.after, Region.binds md e = true → e.on ≠ i) → oi.apart ops ok = true := fun k ok hk hki hun hno => by
        refine hfree k ok hk hki ?_ hno
        by_cases hjk : j = k
        · subst hjk; exact hjun
        · rw [getD_set_ne true hjk] at hun; exact hun
      have hjl : late j = false := by
        cases hl : late j with
        | false => rfl
        | true => exact absurd hj (hlate j hl listed (mem_ready.1 hr).1)
      refine goesI.mono (fun a' w' h3 => ⟨h3.2.1, ih (listed.setIfInBounds j true) a' w' (h3.2.1 hjl) hfree' (ready_mono hr (Ne.symm hji)) h3.1 ?_⟩) h2
      rw [Array.setIfInBounds_comm _ _ hji]
      exact h3.2.2

/-- the same for what does not look at the world -/
theorem firstLp {i : Nat} {oi : Oper} {v : Value} (hl : late i = true) (hi : ops[i]? = some oi) (hsel : ∀ (j : Nat) (o : Oper) cs b, ops[j]? = some o → o.op ≠ .select cs b) :
    ∀ (fuel : Nat) (listed : Array Bool) (a : Act) (w : World),
      (∀ j oj, ops[j]? = some oj → j ≠ i → listed.getD j true = false → (∀ e ∈ oj.after, Region.binds md e = true → e.on ≠ i) → oi.apart ops oj = true) →
      i ∈ Region.ready md ops listed → ReadC P ops (fun _ => True) oi v a →
      wpAnyL2 P md ops C late Q fuel (listed.setIfInBounds i true) (a.put oi.dst v) w → wpAnyL2 P md ops C late Q (fuel + 1) listed a w := by
  intro fuel
  induction fuel with
  | zero =>
    intro listed a w _ hr hy H
    refine ⟨fun h => (by rw [h] at hr; cases hr), fun j hj => ?_⟩
    by_cases hji : j = i
    · subst hji; exact hy.goes hi trivial ⟨fun h => (by rw [hl] at h; cases h), H⟩
    · have := ready_mono hj hji
      rw [H.1] at this
      cases this
  | succ fuel ih =>
    intro listed a w hfree hr hy H
    refine ⟨fun h => (by rw [h] at hr; cases hr), fun j hj => ?_⟩
    by_cases hji : j = i
    · subst hji; exact hy.goes hi trivial ⟨fun h => (by rw [hl] at h; cases h), H⟩
    · have h1 := H.2 j (ready_mono hj hji)
      obtain ⟨hjun, oj, hoj, hall⟩ := mem_ready.1 hj
      have hnot : ∀ e ∈ oj.after, Region.binds md e = true → e.on ≠ i := fun e he hb heq => by
        have h1 := hall e he hb
        have h0 := (mem_ready.1 hr).1
        rw [heq] at h1
        rcases Nat.lt_or_ge i listed.size with h' | h'
        · simp [h'] at h0 h1; rw [h0] at h1; cases h1
        · simp [Array.getElem?_eq_none h'] at h1
      have h2 := goesI_put hoj (hfree j oj hoj hji hjun hnot) (fun cs b => hsel i oi cs b hi) (fun cs b => hsel j oj cs b hoj) hy h1
      have hfree' : ∀ k ok, ops[k]? = some ok → k ≠ i → (listed.setIfInBounds j true).getD k true = false →
          (∀ e ∈ ok.after, Region.binds md e = true → e.on ≠ i) → oi.apart ops ok = true := fun k ok hk hki hun hno => by
        refine hfree k ok hk hki ?_ hno
        by_cases hjk : j = k
        · subst hjk; exact hjun
        · rw [getD_set_ne true hjk] at hun; exact hun
      refine goesI.mono (fun a' w' h3 => ⟨h3.2.1, ih (listed.setIfInBounds j true) a' w' hfree' (ready_mono hr (Ne.symm hji)) h3.1 ?_⟩) h2
      rw [Array.setIfInBounds_comm _ _ hji]
      exact h3.2.2

/-- what is late waits for a read -/
def lateB (md : Region.Mode) (ops : Array Oper) (late : Nat → Bool) (i : Nat) : Bool := (List.range ops.size).all fun j => !late j || Region.waitsFor md ops j i
theorem late_spec {i : Nat} (h : lateB md ops late i = true) : ∀ j, late j = true → ∀ listed : Array Bool, listed.getD i true = false → j ∉ Region.ready md ops listed := by
  intro j hj listed hun hr
  obtain ⟨_, oj, hoj, hall⟩ := mem_ready.1 hr
  unfold lateB at h
  have h1 := List.all_eq_true.1 h j (List.mem_range.2 (Array.getElem?_eq_some_iff.1 hoj).1)
  rw [hj] at h1
  simp only [Bool.not_true, Bool.false_or] at h1
  obtain ⟨o', ho', e, he, hb, hon⟩ := Region.waitsFor_spec h1
  have : o' = oj := Option.some.inj (ho'.symm.trans hoj)
  subst this
  have h2 := hall e he hb
  rw [hon, getD_both hun] at h2
  cases h2
/-- a read is taken first -/
theorem L.rd {f i : Nat} {o : Oper} {listed : Array Bool} {a : Act} {w : World} (hi : ops.toList[i]? = some o) (hb : (Region.noSelect ops && (Region.ready md ops listed).contains i && Region.free md ops listed i && lateB md ops late i) = true) (hC : C w) (hg : o.guard = none) {v : Value} (hy : ∀ W, C W → readW P o a W v)
    (h : wpAnyL2 P md ops C late Q f (listed.setIfInBounds i true) (a.put o.dst v) w) : wpAnyL2 P md ops C late Q (f + 1) listed a w := by
  rw [Array.getElem?_toList] at hi
  simp only [Bool.and_eq_true] at hb
  exact firstL (late_spec hb.2) hi (Region.noSelect_spec hb.1.1.1) f listed a w hC (Region.free_spec hi hb.1.2) (by simpa using hb.1.1.2) (.inl ⟨by simp [Region.wanted, hg], hy⟩) h
/-- a read behind what is late: it does not look at the world -/
theorem L.rdl {f i : Nat} {o : Oper} {listed : Array Bool} {a : Act} {w : World} (hi : ops.toList[i]? = some o) (hb : (Region.noSelect ops && (Region.ready md ops listed).contains i && Region.free md ops listed i && late i) = true) (hg : o.guard = none) {v : Value} (hy : ∀ W, readW P o a W v)
    (h : wpAnyL2 P md ops C late Q f (listed.setIfInBounds i true) (a.put o.dst v) w) : wpAnyL2 P md ops C late Q (f + 1) listed a w := by
  rw [Array.getElem?_toList] at hi
  simp only [Bool.and_eq_true] at hb
  exact firstLp hb.2 hi (Region.noSelect_spec hb.1.1.1) f listed a w (Region.free_spec hi hb.1.2) (by simpa using hb.1.1.2) (.inl ⟨by simp [Region.wanted, hg], fun W _ => hy W⟩) h
/-- one alone may come up -/
theorem L.one {f i : Nat} {o : Oper} {listed : Array Bool} {a : Act} {w : World} (hi : ops.toList[i]? = some o) (hb : decide (Region.ready md ops listed = [i]) = true) (hg : o.guard = none)
    (h : stepT P o a w (fun a' w' => (late i = false → C w') ∧ wpAnyL2 P md ops C late Q f (listed.setIfInBounds i true) a' w')) : wpAnyL2 P md ops C late Q (f + 1) listed a w := by
  rw [Array.getElem?_toList] at hi
  have hb := of_decide_eq_true hb
  refine ⟨fun h => (by rw [hb] at h; cases h), fun j hj => ?_⟩
  rw [hb] at hj
  obtain rfl : j = i := by simpa using hj
  unfold goesI
  simp only [hi]
  rw [if_pos (by simp [Region.wanted, hg])]
  exact h
/-- one of two may come up -/
theorem L.two {f i k : Nat} {o o' : Oper} {listed : Array Bool} {a : Act} {w : World} (hi : ops.toList[i]? = some o) (hk : ops.toList[k]? = some o') (hb : decide (Region.ready md ops listed = [i, k]) = true) (hg : o.guard = none) (hg' : o'.guard = none)
    (h : stepT P o a w (fun a' w' => (late i = false → C w') ∧ wpAnyL2 P md ops C late Q f (listed.setIfInBounds i true) a' w'))
    (h' : stepT P o' a w (fun a' w' => (late k = false → C w') ∧ wpAnyL2 P md ops C late Q f (listed.setIfInBounds k true) a' w')) : wpAnyL2 P md ops C late Q (f + 1) listed a w := by
  rw [Array.getElem?_toList] at hi hk
  have hb := of_decide_eq_true hb
  refine ⟨fun h => (by rw [hb] at h; cases h), fun j hj => ?_⟩
  rw [hb] at hj
  have hj' : j = i ∨ j = k := by simpa using hj
  unfold goesI
  rcases hj' with rfl | rfl
  · simp only [hi]
    rw [if_pos (by simp [Region.wanted, hg])]
    exact h
  · simp only [hk]
    rw [if_pos (by simp [Region.wanted, hg'])]
    exact h'
theorem L.done {f : Nat} {listed : Array Bool} {a : Act} {w : World} (hb : (Region.ready md ops listed).isEmpty = true) (h : Q .normal a w) : wpAnyL2 P md ops C late Q f listed a w := by
  have hb := List.isEmpty_iff.1 hb
  cases f with
  | zero => exact ⟨hb, h⟩
  | succ f => exact ⟨fun _ => h, fun i hi => by rw [hb] at hi; cases hi⟩
/-- the region: whatever order the tape picks -/
theorem wp_region_l {id : Nat} {a : Act} {w : World} {l : List Oper} (C : World → Prop) (late : Nat → Bool) (hm : P.follows .mixedOrders = true)
    (h : wpAnyL2 P .any l.toArray C late Q l.toArray.size (Array.replicate l.toArray.size false) a w.drew) : (Code.region id l.toArray true).wp P Q a w :=
  wp_region_any hm (wpAny_of_L _ _ _ _ h)
end
end Go.Proofs.YtkmcnekjimobhaaDoor
namespace Go.Proofs.YtkmcnekjimobhaaDoor

section
variable {P : Program} {ops : Array Oper} {md : Region.Mode} {C : World → Prop} {late : Nat → Bool} {Q : Exit → Act → World → Prop}
/-- of what is listed all is listed that it waits for -/
def Closed (md : Region.Mode) (ops : Array Oper) (listed : Array Bool) : Prop := ∀ (j : Nat) (oj : Oper), ops[j]? = some oj → listed.getD j false = true → ∀ e ∈ oj.after, Region.binds md e = true → listed.getD e.on false = true
def closedB (md : Region.Mode) (ops : Array Oper) (listed : Array Bool) : Bool := (List.range ops.size).all fun j => match ops[j]? with
  | some oj => !(listed.getD j false) || oj.after.all fun e => !(Region.binds md e) || listed.getD e.on false
  | none => true
theorem closedB_spec {listed : Array Bool} (h : closedB md ops listed = true) : Closed md ops listed := by
  intro j oj hj hl e he hb
  unfold closedB at h
  have h1 := List.all_eq_true.1 h j (List.mem_range.2 (Array.getElem?_eq_some_iff.1 hj).1)
  simp only [hj, hl, Bool.not_true, Bool.false_or] at h1
  have h2 := Array.all_eq_true'.1 h1 e he
  simpa [hb] using h2
/-- does one operation wait for another, maybe through others? -/
def waitsT (md : Region.Mode) (ops : Array Oper) : Nat → Nat → Nat → Bool
  | 0, _, _ => false
  | f + 1, j, i => match ops[j]? with
    | some oj => oj.after.any fun e => Region.binds md e && (e.on == i || waitsT md ops f e.on i)
    | none => false
theorem waitsT_step {f j i : Nat} (h : waitsT md ops (f + 1) j i = true) : ∃ oj, ops[j]? = some oj ∧ ∃ e ∈ oj.after, Region.binds md e = true ∧ (e.on = i ∨ waitsT md ops f e.on i = true) := by
  unfold waitsT at h
  split at h
  · rename_i oj hj
    obtain ⟨e, he, hb⟩ := Array.any_eq_true'.1 h
    simp only [Bool.and_eq_true, Bool.or_eq_true, beq_iff_eq] at hb
    exact ⟨oj, hj, e, he, hb.1, hb.2⟩
  · cases h
theorem waitsT_listed {listed : Array Bool} (hc : Closed md ops listed) : ∀ (f j i : Nat), waitsT md ops f j i = true → listed.getD j false = true → listed.getD i false = true
  | 0, _, _, h, _ => by cases h
  | f + 1, j, i, h, hl => by
    obtain ⟨oj, hj, e, he, hb, h1⟩ := waitsT_step h
    have h2 := hc j oj hj hl e he hb
    rcases h1 with h1 | h1
    · rw [← h1]; exact h2
    · exact waitsT_listed hc f _ _ h1 h2
theorem waitsT_ready {listed : Array Bool} (hc : Closed md ops listed) {f j i : Nat} (h : waitsT md ops f j i = true) (hr : j ∈ Region.ready md ops listed) : listed.getD i false = true := by
  cases f with
  | zero => cases h
  | succ f =>
    obtain ⟨oj, hj, e, he, hb, h1⟩ := waitsT_step h
    obtain ⟨_, o', ho', hall⟩ := mem_ready.1 hr
    rw [hj] at ho'
    injection ho' with ho'
    subst ho'
    have h2 := hall e he hb
    rcases h1 with h1 | h1
    · rw [← h1]; exact h2
    · exact waitsT_listed hc f _ _ h1 h2
/-- a move: it leaves the world as it is -/
def stillB (ops : Array Oper) (j : Nat) : Bool := match ops[j]? with
  | some o => (match o.op with
    | .move _ => true
    | _ => false)
  | none => false
theorem goesI_still {j : Nat} (h : stillB ops j = true) {K : Act → World → Prop} {a : Act} {w : World} (hg : goesI P ops j K a w) : goesI P ops j (fun a' w' => w' = w ∧ K a' w') a w := by
  unfold stillB at h
  unfold goesI at *
  cases ho : ops[j]? with
  | none => rw [ho] at h; cases h
  | some o =>
    rw [ho] at h
    simp only [ho] at hg ⊢
    split
    · rename_i hw
      simp only [hw, if_true] at hg
      cases hop : o.op with
      | move x =>
        unfold stepT at *
        simp only [execOp, hop] at hg ⊢
        exact ⟨by trivial, hg⟩
      | _ => simp [hop] at h
    · rename_i hw
      simp only [hw] at hg
      exact ⟨by trivial, hg⟩
def lateT (md : Region.Mode) (ops : Array Oper) (late : Nat → Bool) (i : Nat) : Bool := (List.range ops.size).all fun j => !late j || waitsT md ops ops.size j i || stillB ops j
theorem lateT_spec {i : Nat} (h : lateT md ops late i = true) {listed : Array Bool} (hc : Closed md ops listed) (hi : listed.getD i true = false) : ∀ j, late j = true → j ∈ Region.ready md ops listed → stillB ops j = true := by
  intro j hj hr
  obtain ⟨_, oj, hoj, _⟩ := mem_ready.1 hr
  unfold lateT at h
  have h1 := List.all_eq_true.1 h j (List.mem_range.2 (Array.getElem?_eq_some_iff.1 hoj).1)
  rw [hj] at h1
  simp only [Bool.not_true, Bool.false_or, Bool.or_eq_true] at h1
  rcases h1 with h1 | h1
  rotate_left
  · exact h1
  have h2 := waitsT_ready hc h1 hr
  rcases Nat.lt_or_ge i listed.size with h' | h'
  · simp [h'] at hi h2; rw [hi] at h2; cases h2
  · simp [Array.getElem?_eq_none h'] at h2
theorem Closed.set {listed : Array Bool} (hc : Closed md ops listed) {j : Nat} (hr : j ∈ Region.ready md ops listed) : Closed md ops (listed.setIfInBounds j true) := by
  intro k ok hk hl e he hb
  by_cases hkj : k = j
  · subst hkj
    obtain ⟨_, o', ho', hall⟩ := mem_ready.1 hr
    rw [hk] at ho'
    injection ho' with ho'
    subst ho'
    exact getD_set_true (hall e he hb)
  · rw [getD_set_ne false (Ne.symm hkj)] at hl
    exact getD_set_true (hc k ok hk hl e he hb)
theorem firstT {i : Nat} {oi : Oper} {v : Value} (hlate : lateT md ops late i = true) (hi : ops[i]? = some oi) (hsel : ∀ (j : Nat) (o : Oper) cs b, ops[j]? = some o → o.op ≠ .select cs b) :
    ∀ (fuel : Nat) (listed : Array Bool) (a : Act) (w : World), C w → Closed md ops listed →
      (∀ j oj, ops[j]? = some oj → j ≠ i → listed.getD j true = false → (∀ e ∈ oj.after, Region.binds md e = true → e.on ≠ i) → oi.apart ops oj = true) →
      i ∈ Region.ready md ops listed → ReadC P ops C oi v a →
      wpAnyL2 P md ops C late Q fuel (listed.setIfInBounds i true) (a.put oi.dst v) w → wpAnyL2 P md ops C late Q (fuel + 1) listed a w := by
  intro fuel
  induction fuel with
  | zero =>
    intro listed a w hC _ _ hr hy H
    refine ⟨fun h => (by rw [h] at hr; cases hr), fun j hj => ?_⟩
    by_cases hji : j = i
    · subst hji; exact hy.goes hi hC ⟨fun _ => hC, H⟩
    · have := ready_mono hj hji
      rw [H.1] at this
      cases this
  | succ fuel ih =>
    intro listed a w hC hcl hfree hr hy H
    refine ⟨fun h => (by rw [h] at hr; cases hr), fun j hj => ?_⟩
    by_cases hji : j = i
    · subst hji; exact hy.goes hi hC ⟨fun _ => hC, H⟩
    · have h1 : goesI P ops j (fun a' w' => (late j = false → C w') ∧ C w' ∧ wpAnyL2 P md ops C late Q fuel ((listed.setIfInBounds i true).setIfInBounds j true) a' w') (a.put oi.dst v) w := by
        have h0 := H.2 j (ready_mono hj hji)
        cases hl : late j with
        | false => rw [hl] at h0; exact goesI.mono (fun a' w' h => ⟨h.1, h.1 rfl, h.2⟩) h0
        | true =>
          have hst := lateT_spec hlate hcl (mem_ready.1 hr).1 j hl hj
          exact goesI.mono (fun a' w' h => ⟨fun h => (by cases h), by rw [h.1]; exact hC, h.2.2⟩) (goesI_still hst h0)
      obtain ⟨hjun, oj, hoj, hall⟩ := mem_ready.1 hj
      have hnot : ∀ e ∈ oj.after, Region.binds md e = true → e.on ≠ i := fun e he hb heq => by
        have h1 := hall e he hb
        have h0 := (mem_ready.1 hr).1
        rw [heq] at h1
        rcases Nat.lt_or_ge i listed.size with h' | h'
        · simp [h'] at h0 h1; rw [h0] at h1; cases h1
        · simp [Array.getElem?_eq_none h'] at h1
      have h2 := goesI_put hoj (hfree j oj hoj hji hjun hnot) (fun cs b => hsel i oi cs b hi) (fun cs b => hsel j oj cs b hoj) hy h1
      have hfree' : ∀ k ok, ops[k]? = some ok → k ≠ i → (listed.setIfInBounds j true).getD k true = false →
          (∀ e ∈ ok.after, Region.binds md e = true → e.on ≠ i) → oi.apart ops ok = true := fun k ok hk hki hun hno => by
        refine hfree k ok hk hki ?_ hno
        by_cases hjk : j = k
        · subst hjk; exact hjun
        · rw [getD_set_ne true hjk] at hun; exact hun
      refine goesI.mono (fun a' w' h3 => ⟨h3.2.1, ih (listed.setIfInBounds j true) a' w' (h3.2.2.1) (hcl.set hj) hfree' (ready_mono hr (Ne.symm hji)) h3.1 ?_⟩) h2
      rw [Array.setIfInBounds_comm _ _ hji]
      exact h3.2.2.2
theorem L.rdt {f i : Nat} {o : Oper} {listed : Array Bool} {a : Act} {w : World} (hi : ops.toList[i]? = some o) (hb : (Region.noSelect ops && (Region.ready md ops listed).contains i && Region.free md ops listed i && lateT md ops late i && closedB md ops listed) = true) (hC : C w) (hg : o.guard = none) {v : Value} (hy : ∀ W, C W → readW P o a W v)
    (h : wpAnyL2 P md ops C late Q f (listed.setIfInBounds i true) (a.put o.dst v) w) : wpAnyL2 P md ops C late Q (f + 1) listed a w := by
  rw [Array.getElem?_toList] at hi
  simp only [Bool.and_eq_true] at hb
  exact firstT hb.1.2 hi (Region.noSelect_spec hb.1.1.1.1) f listed a w hC (closedB_spec hb.2) (Region.free_spec hi hb.1.1.2) (by simpa using hb.1.1.1.2) (.inl ⟨by simp [Region.wanted, hg], hy⟩) h
end
end Go.Proofs.YtkmcnekjimobhaaDoor
