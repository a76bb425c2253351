/- Trees while they are made: the parser, Does, the tree's block and its row of kids. How deep an expression is: plain. How many trees an expression's meaning takes: plain. (*builder).rule, and (*builder).walk where it takes no tree. -/
import Derived.Test.YtndhbdbfjkmloaaJTopTree12
import Derived.Test.YtndhbdbfjkmloaaJTopTree3
import Derived.Test.YtndhbdbfjkmloaaJTopTree11
import Derived.Test.YtndhbdbfjkmloaaJTopTree6
namespace Go.Proofs.Ytndhbdbfjkmloaa
open Go.RowKit Go.Maps

/-- a parser whose memory agrees with what the grammar means -/
def PP (c : PC) (w : World) : Prop := ∃ σ, Par c w σ ∧ Agree c.g c.s.data.toList σ ∧ Bound c.s.data.toList.length σ
section
variable {c : PC} {w w' : World}
theorem PP.below (h : PP c w) (hok : c.Ok) (hb : Below w.heap.size w w') : PP c w' := by
  obtain ⟨σ, h1, h2, h3⟩ := h
  exact ⟨σ, h1.below hok hb, h2, h3⟩
theorem PP.drew (h : PP c w) : PP c w.drew := by
  obtain ⟨σ, h1, h2, h3⟩ := h
  exact ⟨σ, h1.drew, h2, h3⟩
theorem PP.c0 (h : PP c w) : w.cell? ⟨c.P, 0, none⟩ = some (.slice c.A c.n c.cp) := h.choose_spec.1.c0
theorem PP.size (h : PP c w) : c.base ≤ w.heap.size := h.choose_spec.1.size
theorem PP.gram (h : PP c w) : GrIs w c.B c.g c.A c.cp c.row := h.choose_spec.1.gram
theorem PP.far (h : PP c w) (hok : c.Ok) {k : Nat} {T : TypeId} {cs : Array Value} (hb : Blk w k T cs) (hT : T ≠ 95) (h3 : c.base ≤ k) (j : Nat) (u : Value) : PP c (w.setCell ⟨k, j, none⟩ u) := by
  obtain ⟨σ, h1, h2, h4⟩ := h
  have := hok.P
  have := hok.M
  exact ⟨σ, h1.far hok hb hT (by omega) (by omega) h3 j u, h2, h4⟩
/-- a row of another type grows -/
theorem PP.grown (h : PP c w) (hok : c.Ok) {v : Value} {base n size : Nat} {T : TypeId} {xs : List Value} (hT : T ≠ 95) (ho : w.ownsRow base T size v n xs) (hb : c.base ≤ base) (hg : w.grownBy w' v.ownBlock) : PP c w' := by
  obtain ⟨σ, ⟨⟨lv, a1, a2⟩, a3, a4, a5, a6, a7, a8⟩, h2, h4⟩ := h
  have hne : ∀ k, k < c.base → some k ≠ v.ownBlock := fun k hk e => by have := (ho.lt k e.symm).1; omega
  have hP := hok.P
  have hM := hok.M
  have hF := hok.F
  have hl : lv.ownBlock = none ∨ lv.ownBlock ≠ v.ownBlock := by
    cases hv : lv.ownBlock with
    | none => exact .inl rfl
    | some k =>
      refine .inr fun e => ?_
      rcases a2.2 with ⟨rfl, _⟩ | ⟨g, cap, cur, rfl, hb', hgg, _⟩
      · cases hv
      · rcases ho.2 with ⟨rfl, _⟩ | ⟨g2, cap2, cur2, rfl, hb2, hgg2, _⟩
        · cases e
        · simp only [Value.ownBlock, Option.some.injEq] at hv e
          subst hv
          subst e
          rw [hgg] at hgg2
          injection hgg2 with hgg2
          injection hgg2 with e1 e2 e3
          exact hT e2.symm
  refine ⟨σ, ⟨⟨lv, a1.grown hg (hne _ hP), a2.kept hg hl⟩, a3.kept hg (hne _ hM.1), fun i x hi => (World.cell?_of_block (hg.block _ (by simp; omega) (hne _ hF))).trans (a4 i x hi), Nat.le_trans a5 hg.size, a6.on ⟨hg.os, hg.tape, hg.output, hg.size, fun k hk => ?_⟩, a7, a8.keep fun k hh hk he => hg.block k hk (hne _ ?_)⟩, h2, h4⟩
  · have := hok.Bb
    exact hg.block k (by omega) (hne _ (by omega))
  · have := hok.bx hh
    omega
end

set_option maxRecDepth 100000 in
set_option maxHeartbeats 4000000 in
theorem doesb_any {c : PC} (hok : c.Ok) {g : List Rl} {m : Nat} (hN : DoesNode c g m) (e : Ex) (p : Nat) (σ : PS) (r : Option Nat × PS) (cs : List Value) (w : World) (hpk : pk g c.s.data.toList c.hk m (.node e 0) p σ = some r) (hE : ExIs w c.B e cs) (hR : RtW g e) (hnum : nodes e ≤ c.lim)
    (hp : p ≤ c.s.data.toList.length) (hB : Bound c.s.data.toList.length σ) (h : Par c w σ) :
    Calls Try.prog 52 #[.pointer (some ⟨c.P, 0, none⟩), .agg cs.toArray, .int .i64 p] w fun e' w' => e' = .returned (.bool r.1.isSome) ∧ Par c w' r.2 ∧ Keeps c w w' := by
  have hsz := h.size
  have hb1 := hok.Bb
  obtain ⟨k, a, b, d1, d2, t, A, n, cp, rfl⟩ := e.parts hE
  have hal : Below w.heap.size w (w.alloc (.cells #[.int .i64 k, .int .u64 a, .int .u64 b, .int .u64 d1, .int .u64 d2, .string t, .slice A n cp] 27)) := (Below.refl _ _).alloc (Nat.le_refl _) _
  have hcall := hN e 0 p σ r _ _ hpk (hE.on (hal.mono (by omega))) hR (by omega) hp hB (h.below hok hal)
  have HC := Lib.hid hcall
  clear hcall hE hpk
  go_enter Try.func52, Try.ntmps52
  go_wp2_with fail
  refine HC.out.mono ?_
  rintro e' w1 ⟨⟨z, rfl, hz⟩, h1, h2⟩
  go_wp2
  go_ret
  exact ⟨rfl, h1, (Keeps.of_below hal).trans h2⟩

/-- does it do at a place? -/
theorem does_ev {c : PC} (F : c.Fit) (W : WellG c.g) {e : Ex} {cs : List Value} {p n : Nat} {o : Option Nat} {w : World} (hE : ExIs w c.B e cs) (hR : RtW c.g e) (hn : nodes e ≤ c.lim) (hp : p ≤ c.s.data.toList.length) (hev : evJ c.g c.s.data.toList n (.ex e) p = some o) (h : PP c w) :
    Calls Try.prog 52 #[.pointer (some ⟨c.P, 0, none⟩), .agg cs.toArray, .int .i64 p] w fun e' w' => e' = .returned (.bool o.isSome) ∧ PP c w' ∧ Keeps c w w' := by
  obtain ⟨σ, h1, h2, h3⟩ := h
  obtain ⟨m, σ1, hpk, hag, _⟩ := (goes (hook := c.hk) (fits_of W.right) n).1 e p o hR.1 hp hev σ 0 h2
  refine (doesb_any F.ok (does F m).1 e p σ (o, σ1) cs w hpk hE hR hn hp h3 h1).mono ?_
  rintro e' w' ⟨rfl, q1, q2⟩
  exact ⟨rfl, ⟨σ1, q1, hag, (pk_bound _ _ _ _ _ _ _ _ _ hpk hp h3).2⟩, q2⟩

/-- the block of a tree that is made, and its row of kids -/
structure TB (c : PC) (w : World) (base tb : Nat) (r f : Int) (ts : List Tr) (V : Option Addr) (cp : Nat) (xs : List Value) (S : Nat → Prop) : Prop where
  lo : c.base ≤ tb ∧ tb < base ∧ base ≤ w.heap.size
  box : Blk w tb 38 #[.int .i64 r, .int .i64 f, .int .i64 0, .slice V ts.length cp]
  own : w.ownsRow base 38 4 (.slice V ts.length cp) ts.length xs
  kids : KidsAre w S ts xs
  sep : ∀ b, S b → some b ≠ (Value.slice V ts.length cp).ownBlock ∧ base ≤ b ∧ ∃ cs, Blk w b 38 cs
/-- the same, all of it hidden but the row's block -/
def TBx (c : PC) (w : World) (base tb : Nat) (r f : Int) (ts : List Tr) (own : Option Nat) : Prop := ∃ V cp xs S, own = (Value.slice V ts.length cp).ownBlock ∧ TB c w base tb r f ts V cp xs S
/-- all stands but the parser's own, the tree's block and the row's -/
structure Tk (c : PC) (tb : Nat) (r : Option Nat) (w w' : World) : Prop where
  os : w'.os = w.os
  tape : w'.tape = w.tape
  output : w'.output = w.output
  size : w.heap.size ≤ w'.heap.size
  blk : ∀ k, k < w.heap.size → k ≠ c.P → (k ≠ c.M ∧ k ≠ c.ob) → (k < c.base ∨ ∀ cs fr, w.heap[k]? ≠ some (.cells cs 95 fr)) → k ≠ tb → some k ≠ r → w'.heap[k]? = w.heap[k]?
section
variable {c : PC} {w w' w'' : World} {base tb : Nat} {r f : Int} {ts : List Tr} {own own' : Option Nat} {V : Option Addr} {cp : Nat} {xs : List Value} {S : Nat → Prop}
theorem Tk.of_keeps (h : Keeps c w w') : Tk c tb own w w' := ⟨h.os, h.tape, h.output, h.size, fun k h1 h2 h3 h4 _ _ => h.blk k h1 h2 h3 h4⟩
theorem Tk.refl (c : PC) (tb : Nat) (own : Option Nat) (w : World) : Tk c tb own w w := Tk.of_keeps (Keeps.refl c w)
/-- the row's block is the old one, or new -/
def Moved (w : World) (own own' : Option Nat) : Prop := own' = own ∨ ∃ k, own' = some k ∧ w.heap.size ≤ k
theorem Moved.refl (w : World) (own : Option Nat) : Moved w own own := .inl rfl
theorem Tk.trans (h : Tk c tb own w w') (h' : Tk c tb own' w' w'') (hm : Moved w own own') : Tk c tb own w w'' :=
  ⟨h'.os.trans h.os, h'.tape.trans h.tape, h'.output.trans h.output, Nat.le_trans h.size h'.size, fun k h1 h2 h3 h4 h5 h6 => by
    have e := h.blk k h1 h2 h3 h4 h5 h6
    rw [← e]
    refine h'.blk k (Nat.lt_of_lt_of_le h1 h.size) h2 h3 ?_ h5 ?_
    · rcases h4 with h4 | h4
      · exact .inl h4
      · exact .inr (by rw [e]; exact h4)
    · rcases hm with rfl | ⟨q, rfl, hq⟩
      · exact h6
      · intro e; injection e with e; omega⟩
theorem Moved.trans {own'' : Option Nat} (h : Moved w own own') (h' : Moved w' own' own'') (hs : w.heap.size ≤ w'.heap.size) : Moved w own own'' := by
  rcases h' with rfl | ⟨q, rfl, hq⟩
  · exact h
  · exact .inr ⟨q, rfl, by omega⟩
theorem Tk.box {k : Nat} {T : TypeId} {cs : Array Value} (h : Tk c tb own w w') (hb : Blk w k T cs) (hT : T ≠ 95) (h1 : k ≠ c.P) (h2 : k ≠ c.M ∧ k ≠ c.ob) (h3 : k ≠ tb) (h4 : some k ≠ own) : Blk w' k T cs :=
  (h.blk k hb.lt h1 h2 (.inr fun cs' fr e => by
    have hb' : w.heap[k]? = some (.cells cs T (0, 0)) := hb
    rw [hb'] at e
    injection e with e
    injection e with e1 e2 e3
    exact hT e2) h3 h4).trans hb
theorem Tk.below (h : Tk c tb own w w') {B : Nat} (hB : B ≤ w.heap.size) (h1 : B ≤ c.P) (h2 : B ≤ c.M ∧ B ≤ c.ob) (h3 : B ≤ c.base) (h4 : B ≤ tb) (h5 : ∀ k, own = some k → B ≤ k) : Below B w w' :=
  ⟨h.os, h.tape, h.output, h.size, fun k hk => h.blk k (by omega) (by omega) (by omega) (.inl (by omega)) (by omega) (fun e => by have := h5 k e.symm; omega)⟩
theorem TB.own_lt (h : TB c w base tb r f ts V cp xs S) : ∀ k, (Value.slice V ts.length cp).ownBlock = some k → base ≤ k ∧ k < w.heap.size := fun k hk => h.own.lt k hk
theorem TBx.own_lt (h : TBx c w base tb r f ts own) : ∀ k, own = some k → base ≤ k ∧ k < w.heap.size := by
  obtain ⟨V, cp, xs, S, rfl, h⟩ := h
  exact h.own_lt
theorem TBx.lo (h : TBx c w base tb r f ts own) : c.base ≤ tb ∧ tb < base ∧ base ≤ w.heap.size := by
  obtain ⟨V, cp, xs, S, rfl, h⟩ := h
  exact h.lo
/-- a block of another type is not the row's -/
theorem TBx.ne {k : Nat} {T : TypeId} {cs : Array Value} (h : TBx c w base tb r f ts own) (hb : Blk w k T cs) (hT : T ≠ 38) : k ≠ tb ∧ some k ≠ own := by
  obtain ⟨V, cp, xs, S, rfl, h⟩ := h
  have hk : w.heap[k]? = some (.cells cs T (0, 0)) := hb
  constructor
  · rintro rfl
    have h2 : w.heap[k]? = some (.cells _ 38 (0, 0)) := h.box
    rw [hk] at h2
    injection h2 with h2
    injection h2 with e1 e2 e3
    exact hT e2
  · intro e
    rcases h.own.2 with ⟨h1, _⟩ | ⟨g, cap, cur, h1, hb', hgg, _⟩
    · rw [h1] at e; cases e
    · rw [h1] at e
      simp only [Value.ownBlock, Option.some.injEq] at e
      subst e
      rw [hk] at hgg
      injection hgg with hgg
      injection hgg with e1 e2 e3
      exact hT e2
/-- what the parser does leaves it -/
theorem TB.keeps (h : TB c w base tb r f ts V cp xs S) (hok : c.Ok) (hk : Keeps c w w') : TB c w' base tb r f ts V cp xs S := by
  have hP := hok.P
  have hM := hok.M
  obtain ⟨l1, l2, l3⟩ := h.lo
  have hbx : ∀ b, c.base ≤ b → ∀ cs, Blk w b 38 cs → Blk w' b 38 cs := fun b hb cs hcs => hk.box hcs (by decide) (by omega) (by omega)
  have hheap : ∀ b, base ≤ b → (∃ cs, Blk w b 38 cs) → w'.heap[b]? = w.heap[b]? := fun b hb ⟨cs, hcs⟩ => (hbx b (by omega) cs hcs : w'.heap[b]? = _).trans (hcs : w.heap[b]? = _).symm
  refine ⟨⟨l1, l2, Nat.le_trans l3 hk.size⟩, hbx _ l1 _ h.box, own_heap h.own fun b hb => hheap b (h.own.lt b hb).1 ?_, h.kids.keep (fun _ h => h) (fun p hp => World.cell?_of_block (hheap _ (h.sep _ hp).2.1 (h.sep _ hp).2.2)), fun b hb => ?_⟩
  · rcases h.own.2 with ⟨h1, _⟩ | ⟨g, cap, cur, h1, hb', hgg, _⟩
    · rw [h1] at hb; cases hb
    · rw [h1] at hb
      simp only [Value.ownBlock, Option.some.injEq] at hb
      subst hb
      exact ⟨_, hgg⟩
  · obtain ⟨s1, s2, cs, s3⟩ := h.sep b hb
    exact ⟨s1, s2, cs, hbx b (by omega) cs s3⟩
theorem TBx.keeps (h : TBx c w base tb r f ts own) (hok : c.Ok) (hk : Keeps c w w') : TBx c w' base tb r f ts own := by
  obtain ⟨V, cp, xs, S, rfl, h⟩ := h
  exact ⟨V, cp, xs, S, rfl, h.keeps hok hk⟩
theorem TBx.below (h : TBx c w base tb r f ts own) (hok : c.Ok) (hb : Below w.heap.size w w') : TBx c w' base tb r f ts own := h.keeps hok (Keeps.of_below hb)
end
/-- a tree out of its row of kids -/
theorem tree_of_row {w : World} {S : Nat → Prop} {base : Nat} {ks : List Tr} {A : Option Addr} {c : Nat} {kxs : List Value} (h1 : w.ownsRow base 38 4 (.slice A ks.length c) ks.length kxs) (h2 : KidsAre w S ks kxs) (r f a : Int) :
    TrIs w (fun b => S b ∨ some b = (Value.slice A ks.length c).ownBlock) (.mk r f a ks) [.int .i64 r, .int .i64 f, .int .i64 a, .slice A ks.length c] := by
  have hb : 0 < ks.length → ∃ ad : Addr, A = some ad ∧ (S ad.block ∨ some ad.block = (Value.slice A ks.length c).ownBlock) := by
    intro h0
    obtain ⟨g', c', hv', _, _⟩ := h1.form h0
    simp only [Value.slice.injEq] at hv'
    obtain ⟨rfl, -, -⟩ := hv'
    exact ⟨_, rfl, .inr rfl⟩
  have hcap : ks.length ≤ c ∧ c ≤ maxLen := by
    rcases h1.2 with ⟨e, e2⟩ | ⟨g', c', cur, e, _, _, e1, e2, _⟩
    · simp only [Value.slice.injEq] at e
      rw [e.2.1, e.2.2]
      exact ⟨Nat.le_refl _, by unfold maxLen; omega⟩
    · simp only [Value.slice.injEq] at e
      rw [e.2.2]
      exact ⟨e1, e2⟩
  have hrow : ∀ i, i < ks.length → ∃ c, (∀ t, ks[i]? = some t → TrIs w S t c) ∧ ∀ j u, c[j]? = some u → kxs[i * 4 + j]? = some u := by
    intro i hi
    obtain ⟨c, hc1, hc2⟩ := h2.at_ i _ (List.getElem?_eq_getElem hi)
    exact ⟨c, fun t ht => by rw [List.getElem?_eq_getElem hi] at ht; injection ht with ht; rw [← ht]; exact hc1, hc2⟩
  obtain ⟨q, hq⟩ := @tr_row (List Value) ⟨[]⟩ _ _ hrow
  refine .mk r f a ks A c q hcap.1 hcap.2 hb (fun i t ht => ((hq i (getElem?_lt ht)).1 t ht).keep (fun b h => .inl h) (fun _ _ => rfl)) (fun i t ad ht hA j u hu => ?_)
  obtain ⟨g', c', hv', _, _⟩ := h1.form (by have := getElem?_lt ht; omega)
  simp only [Value.slice.injEq] at hv'
  rw [hA] at hv'
  obtain ⟨e, -, -⟩ := hv'
  injection e with e
  subst e
  subst hA
  have := h1.cells (g := g') rfl (i * 4 + j) u ((hq i (getElem?_lt ht)).2 j u hu)
  rw [add_add']
  exact this

/-- what (*builder).rule answers -/
def TRuleQ (c : PC) (i p q : Nat) (ks : List Tr) (w : World) (e : Ending) (w' : World) : Prop := PP c w' ∧ Keeps c w w' ∧ ∃ V cp S, e = .returned (.agg #[.int .i64 i, .int .i64 p, .int .i64 q, .slice V ks.length cp]) ∧
  TrIs w' S (.mk i p q ks) [.int .i64 i, .int .i64 p, .int .i64 q, .slice V ks.length cp] ∧ ∀ b, S b → w.heap.size ≤ b ∧ ∃ cs, Blk w' b 38 cs
/-- what (*builder).walk answers -/
def TWalkQ (c : PC) (base tb : Nat) (r f : Int) (ts : List Tr) (own : Option Nat) (q : Nat) (w : World) (e : Ending) (w' : World) : Prop := e = .returned (.int .i64 q) ∧ PP c w' ∧ ∃ own' , TBx c w' base tb r f ts own' ∧ Moved w own own' ∧ Tk c tb own w w'
def BdOk (c : PC) (bb : Nat) (w : World) : Prop := c.base ≤ bb ∧ Blk w bb 59 #[.pointer (some ⟨c.P, 0, none⟩)]
def DoesWalk (c : PC) (n : Nat) : Prop := ∀ (e : Ex) (p q : Nat) (cs : List Value) (bb base tb : Nat) (r f : Int) (ts : List Tr) (own : Option Nat) (w : World), evJ c.g c.s.data.toList n (.ex e) p = some (some q) → ExIs w c.B e cs → RtW c.g e → nodes e ≤ c.lim → p ≤ c.s.data.toList.length →
  PP c w → BdOk c bb w → TBx c w base tb r f ts own → ts.length + (trJ c.g c.s.data.toList n (.ex e) p).length ≤ 15000000 → Calls Try.prog 36 #[.pointer (some ⟨bb, 0, none⟩), .agg cs.toArray, .int .i64 p, .pointer (some ⟨tb, 3, none⟩)] w (TWalkQ c base tb r f (ts ++ trJ c.g c.s.data.toList n (.ex e) p) own q w)
def DoesTRule (c : PC) (n : Nat) : Prop := ∀ (i p q : Nat) (r : Rl) (bb : Nat) (w : World), c.g[i]? = some r → evJ c.g c.s.data.toList n (.ex r.2) p = some (some q) → p ≤ c.s.data.toList.length → PP c w → BdOk c bb w →
  Calls Try.prog 22 #[.pointer (some ⟨bb, 0, none⟩), .int .i64 i, .int .i64 p] w (TRuleQ c i p q (trJ c.g c.s.data.toList n (.ex r.2) p) w)
theorem BdOk.tk {c : PC} {bb base tb : Nat} {r f : Int} {ts : List Tr} {own : Option Nat} {w w' : World} (h : BdOk c bb w) (hok : c.Ok) (hT : TBx c w base tb r f ts own) (hk : Tk c tb own w w') : BdOk c bb w' := by
  have hne := hT.ne h.2 (by decide)
  have hP := hok.P
  have hM := hok.M
  have h1 := h.1
  exact ⟨h1, hk.box h.2 (by decide) (by omega) (by omega) hne.1 hne.2⟩
theorem BdOk.keeps {c : PC} {bb : Nat} {w w' : World} (h : BdOk c bb w) (hok : c.Ok) (hk : Keeps c w w') : BdOk c bb w' := by
  have hP := hok.P
  have hM := hok.M
  have h1 := h.1
  exact ⟨h1, hk.box h.2 (by decide) (by omega) (by omega)⟩
end Go.Proofs.Ytndhbdbfjkmloaa
namespace Go.Proofs.Ytndhbdbfjkmloaa

mutual
/-- how deep an expression is -/
def hE : Ex → Nat
  | .mk _ _ _ _ _ _ ks => 1 + hS ks
def hS : List Ex → Nat
  | [] => 0
  | e :: es => max (hE e) (hS es)
end
theorem hS_mem : ∀ {ks : List Ex} {e : Ex}, e ∈ ks → hE e ≤ hS ks
  | [], e, h => by cases h
  | x :: xs, e, h => by
    rw [hS]
    rcases List.mem_cons.1 h with rfl | h
    · exact Nat.le_max_left _ _
    · exact Nat.le_trans (hS_mem h) (Nat.le_max_right _ _)
theorem hS_le {N : Nat} : ∀ {ks : List Ex}, (∀ e ∈ ks, hE e ≤ N) → hS ks ≤ N
  | [], _ => Nat.zero_le _
  | e :: es, h => by
    rw [hS]
    exact Nat.max_le.2 ⟨h e (by simp), hS_le fun x hx => h x (by simp [hx])⟩
theorem looks_deep {m : Nat} : ∀ (ks : List Ex) (n : Nat), (looks ks n m).1 = 0 → ∀ e ∈ ks, ∃ n', (lookN e n' m).1 = 0
  | [], _, _ => fun e he => by cases he
  | e :: es, n, h => fun e' he' => by
    unfold looks at h
    split at h
    · rename_i h0
      rcases List.mem_cons.1 he' with rfl | he'
      · exact ⟨_, h0⟩
      · exact looks_deep es _ h e' he'
    · rename_i h0
      exact absurd h h0
theorem look_deep (e : Ex) : ∀ n m, (lookN e n m).1 = 0 → m + hE e ≤ 13 := by
  refine Ex.ind (P := fun e => ∀ n m, (lookN e n m).1 = 0 → m + hE e ≤ 13) ?_ e
  intro k a b c d t ks ih n m h
  unfold lookN at h
  split at h
  · simp at h
  split at h
  · simp at h
  rename_i h12
  split at h
  · simp at h
  · have hk := looks_deep ks _ h
    have : hS ks ≤ 12 - m := hS_le fun e he => by
      obtain ⟨n', hn⟩ := hk e he
      have := ih e he n' (m + 1) hn
      omega
    rw [hE]
    omega
theorem check_deep {e : Ex} (h : checkE e = 0) : hE e ≤ 12 := by
  have := look_deep e 0 1 h
  omega

end Go.Proofs.Ytndhbdbfjkmloaa
namespace Go.Proofs.Ytndhbdbfjkmloaa

def trM (e : Ex) : Nat := 2 ^ hE e * nodes e
section
variable {g : List Rl} {s : List UInt8} {fs : List Fa}
theorem mul3 {a b c d e f : Nat} (h1 : a ≤ d) (h2 : b ≤ e) (h3 : c ≤ f) : a * b * c ≤ d * e * f := Nat.mul_le_mul (Nat.mul_le_mul h1 h2) h3
structure TrLen (g : List Rl) (s : List UInt8) (fs : List Fa) (n : Nat) : Prop where
  ex : ∀ e p q, GoodE g fs e → p ≤ s.length → evJ g s n (.ex e) p = some (some q) → (trJ g s n (.ex e) p).length ≤ trM e * (q - p + 1)
  seq : ∀ es p q X, (∀ e ∈ es, GoodE g fs e ∧ 2 ^ hE e ≤ X) → p ≤ s.length → evJ g s n (.seq es) p = some (some q) → (trJ g s n (.seq es) p).length ≤ X * nodesAll es * (q - p + 1)
  alt : ∀ es p q X, (∀ e ∈ es, GoodE g fs e ∧ 2 ^ hE e ≤ X) → p ≤ s.length → evJ g s n (.alt es) p = some (some q) → (trJ g s n (.alt es) p).length ≤ X * nodesAll es * (q - p + 1)
  rep : ∀ e p q, GoodE g fs e → (ofE g fs e).e = false → p ≤ s.length → evJ g s n (.rep e) p = some (some q) → (trJ g s n (.rep e) p).length ≤ trM e * (2 * (q - p))
  kid : ∀ k e p q, GoodE g fs e → (k = 7 ∨ k = 8 → (ofE g fs e).e = false) → 7 ≤ k → p ≤ s.length → evJ g s n (.kid k e) p = some (some q) → (trJ g s n (.kid k e) p).length ≤ trM e * (2 * (q - p + 1))
theorem trLen (H : Fits g fs) : ∀ n, TrLen g s fs n := by
  intro n
  induction n with
  | zero => exact ⟨fun _ _ _ _ _ h => (by cases h), fun _ _ _ _ _ _ h => (by cases h), fun _ _ _ _ _ _ h => (by cases h), fun _ _ _ _ _ _ h => (by cases h), fun _ _ _ _ _ _ _ _ h => (by cases h)⟩
  | succ n ih =>
    have htl : ∀ e p q, GoodE g fs e → p ≤ s.length → evJ g s n (.ex e) p = some (some q) → p ≤ q ∧ q ≤ s.length ∧ ((ofE g fs e).e = false → p < q) := fun e p q h1 h2 h3 => by
      have ht := (told H n).1 e p _ h1.rt h2 h3
      refine ⟨ht.1, ht.2.1, fun hne => ?_⟩
      rcases Nat.lt_or_ge p q with h | h
      · exact h
      · have := ht.2.2.1 (by have := ht.1; omega)
        rw [hne] at this
        cases this
    have hle : ∀ j p q, evJ g s n j p = some (some q) → p ≤ q := fun j p q h => (nests n j p q h).le
    refine ⟨?_, ?_, ?_, ?_, ?_⟩
    · rintro ⟨k, a, b, c, d, t, ks⟩ p q hg hp h
      obtain ⟨hkids, hfit, hname, hloop⟩ := hg.kids
      have hfc := fit_cases hfit
      have hpq := (nests (n + 1) _ p q h).le
      rw [evJ.eq_def] at h
      rw [trJ.eq_def]
      dsimp only at h ⊢
      have hX : ∀ e ∈ ks, GoodE g fs e ∧ 2 ^ hE e ≤ 2 ^ hS ks := fun e he => ⟨hkids e he, Nat.pow_le_pow_right (by omega) (hS_mem he)⟩
      have hM : trM (.mk k a b c d t ks) = 2 ^ (1 + hS ks) * (1 + nodesAll ks) := by unfold trM; rw [hE, nodes]
      have hM2 : 2 ^ hS ks * nodesAll ks * (q - p + 1) ≤ trM (.mk k a b c d t ks) * (q - p + 1) := by
        rw [hM]
        exact mul3 (Nat.pow_le_pow_right (by omega) (by omega)) (by omega) (Nat.le_refl _)
      by_cases h1 : k = 1 ∨ k = 2 ∨ k = 3
      · rw [if_pos h1]; exact Nat.zero_le _
      rw [if_neg h1]
      rw [if_neg (by omega), if_neg (by omega), if_neg (by omega)] at h
      by_cases h4 : k = 4
      · rw [if_pos h4] at h ⊢
        obtain ⟨r, hr, _⟩ := fnd_at (hname h4)
        rw [hr] at h ⊢
        dsimp only at h ⊢
        rw [h]
        have h1 : 0 < trM (.mk k a b c d t ks) := by rw [hM]; exact Nat.mul_pos (Nat.pow_pos (by omega)) (by omega)
        exact Nat.mul_pos h1 (by omega)
      rw [if_neg h4] at h ⊢
      by_cases h5 : k = 5
      · rw [if_pos h5] at h ⊢
        exact Nat.le_trans (ih.seq ks p q _ hX hp h) hM2
      rw [if_neg h5] at h ⊢
      by_cases h6 : k = 6
      · rw [if_pos h6] at h ⊢
        exact Nat.le_trans (ih.alt ks p q _ hX hp h) hM2
      rw [if_neg h6] at h ⊢
      match ks, show ks.length = 1 by omega with
      | [e], _ =>
      dsimp only at h ⊢
      have hge := hkids e (by simp)
      have hMe : 2 * trM e ≤ trM (.mk k a b c d t [e]) := by
        rw [hM]
        unfold trM
        rw [hS, hS, nodesAll, nodesAll, Nat.max_eq_left (Nat.zero_le _), Nat.add_comm 1 (hE e), Nat.pow_succ, ← Nat.mul_assoc, Nat.mul_comm 2]
        exact Nat.mul_le_mul_left _ (by omega)
      have hbig : ∀ m, m ≤ trM e * (2 * (q - p + 1)) → m ≤ trM (.mk k a b c d t [e]) * (q - p + 1) := fun m hm => Nat.le_trans hm (by
        rw [← Nat.mul_assoc, Nat.mul_comm (trM e) 2]
        exact Nat.mul_le_mul_right _ hMe)
      refine Nat.le_trans (ih.kid k e p q hge (fun hk => hloop hk e rfl) (by omega) hp h) ?_
      rw [← Nat.mul_assoc, Nat.mul_comm (trM e) 2]
      exact Nat.mul_le_mul_right _ hMe
    · rintro es p q X hX hp h
      cases es with
      | nil =>
        rw [trJ.eq_def]
        exact Nat.zero_le _
      | cons e es =>
        rw [evJ.eq_def] at h
        rw [trJ.eq_def]
        dsimp only at h ⊢
        cases he : evJ g s n (.ex e) p with
        | none => rw [he] at h; cases h
        | some u =>
          rw [he] at h
          cases u with
          | none => cases h
          | some tq =>
            dsimp only at h ⊢
            obtain ⟨hge, hXe⟩ := hX e (by simp)
            have h1 := htl e p tq hge hp he
            have h2 := hle _ _ _ h
            have l1 := ih.ex e p tq hge hp he
            have l2 := ih.seq es tq q X (fun x hx => hX x (by simp [hx])) h1.2.1 h
            rw [List.length_append, nodesAll, Nat.mul_add X, Nat.add_mul]
            unfold trM at l1
            exact Nat.add_le_add (Nat.le_trans l1 (mul3 hXe (Nat.le_refl _) (by omega))) (Nat.le_trans l2 (Nat.mul_le_mul_left _ (by omega)))
    · rintro es p q X hX hp h
      cases es with
      | nil =>
        rw [trJ.eq_def]
        exact Nat.zero_le _
      | cons e es =>
        rw [evJ.eq_def] at h
        rw [trJ.eq_def]
        dsimp only at h ⊢
        cases he : evJ g s n (.ex e) p with
        | none => rw [he] at h; cases h
        | some u =>
          rw [he] at h
          obtain ⟨hge, hXe⟩ := hX e (by simp)
          rw [nodesAll, Nat.mul_add X, Nat.add_mul]
          cases u with
          | none =>
            dsimp only at h ⊢
            exact Nat.le_trans (ih.alt es p q X (fun x hx => hX x (by simp [hx])) hp h) (Nat.le_add_left _ _)
          | some tq =>
            dsimp only at h ⊢
            injection h with h
            injection h with h
            subst h
            have l1 := ih.ex e p tq hge hp he
            unfold trM at l1
            exact Nat.le_trans (Nat.le_trans l1 (mul3 hXe (Nat.le_refl _) (Nat.le_refl _))) (Nat.le_add_right _ _)
    · rintro e p q hge hne hp h
      rw [evJ.eq_def] at h
      rw [trJ.eq_def]
      dsimp only at h ⊢
      cases he : evJ g s n (.ex e) p with
      | none => rw [he] at h; cases h
      | some u =>
        rw [he] at h
        cases u with
        | none => exact Nat.zero_le _
        | some tq =>
          dsimp only at h ⊢
          have h1 := htl e p tq hge hp he
          have h2 := hle _ _ _ h
          have h3 := h1.2.2 hne
          have l1 := ih.ex e p tq hge hp he
          have l2 := ih.rep e tq q hge hne h1.2.1 h
          rw [List.length_append]
          refine Nat.le_trans (Nat.add_le_add l1 l2) ?_
          rw [← Nat.mul_add]
          exact Nat.mul_le_mul_left _ (by omega)
    · rintro k e p q hge hne h7 hp h
      rw [evJ.eq_def] at h
      rw [trJ.eq_def]
      dsimp only at h ⊢
      by_cases k7 : k = 7
      · rw [if_pos k7] at h ⊢
        exact Nat.le_trans (ih.rep e p q hge (hne (.inl k7)) hp h) (Nat.mul_le_mul_left _ (by omega))
      rw [if_neg k7] at h ⊢
      cases he : evJ g s n (.ex e) p with
      | none => rw [he] at h; cases h
      | some u =>
        rw [he] at h
        cases u with
        | none =>
          dsimp only
          have : (if k = 8 then ([] : List Tr) else if k = 9 then [] else []) = [] := by simp
          rw [this]
          exact Nat.zero_le _
        | some tq =>
          dsimp only at h ⊢
          have h1 := htl e p tq hge hp he
          have l1 := ih.ex e p tq hge hp he
          by_cases k8 : k = 8
          · rw [if_pos k8] at h ⊢
            have h2 := hle _ _ _ h
            have h3 := h1.2.2 (hne (.inr k8))
            have l2 := ih.rep e tq q hge (hne (.inr k8)) h1.2.1 h
            rw [List.length_append]
            refine Nat.le_trans (Nat.add_le_add l1 l2) ?_
            rw [← Nat.mul_add]
            exact Nat.mul_le_mul_left _ (by omega)
          rw [if_neg k8] at h ⊢
          by_cases k9 : k = 9
          · rw [if_pos k9] at h ⊢
            injection h with h
            injection h with h
            subst h
            exact Nat.le_trans l1 (Nat.mul_le_mul_left _ (by omega))
          · rw [if_neg k9]
            exact Nat.zero_le _
/-- no rule takes more than so many trees -/
theorem tr_few (W : WellG g) (h60 : s.length ≤ 60) {r : Rl} (hr : r ∈ g) {n p q : Nat} (hp : p ≤ s.length) (h : evJ g s n (.ex r.2) p = some (some q)) : (trJ g s n (.ex r.2) p).length ≤ 15000000 := by
  have H := fits_of W.right
  have hR := W.right.rt r hr
  have h1 := (trLen (s := s) H n).ex r.2 p q ⟨hR, W.noloop r hr⟩ hp h
  have ht := (told H n).1 r.2 p _ hR hp h
  have h2 : trM r.2 ≤ 2 ^ 12 * 60 := Nat.mul_le_mul (Nat.pow_le_pow_right (by omega) (check_deep (W.right.body r hr))) (nodes_le (W.right.body r hr))
  have h3 := ht.2.1
  have h4 : trM r.2 * (q - p + 1) ≤ 2 ^ 12 * 60 * 61 := Nat.mul_le_mul h2 (by omega)
  omega
end
end Go.Proofs.Ytndhbdbfjkmloaa
namespace Go.Proofs.Ytndhbdbfjkmloaa
open Go.RowKit Go.Maps

theorem BdOk.c0 {c : PC} {bb : Nat} {w : World} (h : BdOk c bb w) : w.cell? ⟨bb, 0, none⟩ = some (.pointer (some ⟨c.P, 0, none⟩)) := h.2.cell 0

set_option maxRecDepth 100000 in
set_option maxHeartbeats 4000000 in
theorem trule_any {c : PC} (F : c.Fit) (Wg : WellG c.g) (h60 : c.s.data.toList.length ≤ 60) {n : Nat} (hW : DoesWalk c n) : DoesTRule c n := by
  intro i p q r bb w hr hev hp hpp hbd
  have hfew := tr_few Wg h60 (List.mem_of_getElem? hr) hp hev
  generalize hKS : trJ c.g c.s.data.toList n (.ex r.2) p = KS at hfew ⊢
  have hi := getElem?_lt hr
  have hok := F.ok
  have hlen := hok.len
  have hsz := hpp.size
  have hBb := hok.Bb
  have hBP := hok.BP
  have hBM := hok.BM
  have hP := hok.P
  have hM := hok.M
  have hi1 : (i : Int) < (c.g.length : Int) := by omega
  have hi0 : (0 : Int) ≤ (i : Int) := by omega
  have hal : Below w.heap.size w ((w.alloc (.cells #[.int .i64 0, .int .i64 0, .int .i64 0, .slice none 0 0] 38)).alloc (.cells #[.int .i64 i, .int .i64 p, .int .i64 0, .slice none 0 0] 38)) := (by repeat (first | exact Below.refl _ _ | assumption | refine Below.drew ?_ | refine below_drewN ?_ _ | refine Below.alloc ?_ (by first | omega | (simp; omega) | simp) _ | refine Below.setCell ?_ (by first | omega | (simp; omega) | simp) _))
  have hpp1 := hpp.below hok hal
  have hbd1 := hbd.keeps hok (Keeps.of_below hal)
  have hT1 : TBx c ((w.alloc (.cells #[.int .i64 0, .int .i64 0, .int .i64 0, .slice none 0 0] 38)).alloc (.cells #[.int .i64 i, .int .i64 p, .int .i64 0, .slice none 0 0] 38)) (w.heap.size + 2) (w.heap.size + 1) i p [] none :=
    ⟨none, 0, [], fun _ => False, rfl, ⟨⟨by omega, by omega, by simp⟩, blk_at (by simp), World.ownsRow_nil _ _ _ _, rfl, fun _ h => h.elim⟩⟩
  have hres1 : Blk ((w.alloc (.cells #[.int .i64 0, .int .i64 0, .int .i64 0, .slice none 0 0] 38)).alloc (.cells #[.int .i64 i, .int .i64 p, .int .i64 0, .slice none 0 0] 38)) w.heap.size 38 #[.int .i64 0, .int .i64 0, .int .i64 0, .slice none 0 0] := (blk_at rfl).alloc _
  have hs1 : ((w.alloc (.cells #[.int .i64 0, .int .i64 0, .int .i64 0, .slice none 0 0] 38)).alloc (.cells #[.int .i64 i, .int .i64 p, .int .i64 0, .slice none 0 0] 38)).heap.size = w.heap.size + 2 := by simp
  have hnl := F.nodes i _ hr
  have hbbl : bb < w.heap.size := hbd.2.lt
  go_enter Try.func22, Try.ntmps22
  go_upto_region 2 with fail
  generalize ((w.alloc (.cells #[.int .i64 0, .int .i64 0, .int .i64 0, .slice none 0 0] 38)).alloc (.cells #[.int .i64 i, .int .i64 p, .int .i64 0, .slice none 0 0] 38)) = w1 at hal hpp1 hbd1 hT1 hres1 hs1 ⊢
  obtain ⟨ad, nm, k', a', b', c', d', t', ks', A', cp', hA, hab, hej, hnm, hE, ⟨e0, e1, e2, e3, e4, e5, e6, e7⟩⟩ := hpp1.gram.rule hi
  obtain rfl : r = (nm, .mk k' a' b' c' d' t' ks') := by rw [hr] at hej; injection hej
  have s0 := hpp1.c0
  rw [hA, hlen] at s0
  have b0 := hbd1.c0
  have hcall := hW (.mk k' a' b' c' d' t' ks') p q _ bb (w.heap.size + 2) (w.heap.size + 1) i p [] none w1 hev hE (F.rt _ (List.mem_of_getElem? hr)) (by dsimp only at hnl; omega) hp hpp1 hbd1 hT1 (by dsimp only at hKS; rw [hKS]; simpa using hfew)
  dsimp only at hKS
  rw [List.nil_append, hKS] at hcall
  unfold exCells at hcall
  have HC := Lib.hid hcall
  have HR := Lib.hid hres1
  have HAL := Lib.hid hal
  have HS1 := Lib.hid hs1
  clear hcall hKS hev hE hW hpp1 hbd1 hT1 hres1 hfew hnl hr hej hal hs1
  go_wp2_with fail
  refine HC.out.mono ?_
  rintro e' w2 ⟨rfl, hpp2, own', ⟨V, cp, xs, S, rfl, hT⟩, hmv, htk⟩
  have hres2 := htk.box HR.out (by decide) (by omega) (by omega) (by omega) (by simp)
  have hbx2 := hT.box
  have hT2 := tree_of_row hT.own hT.kids i p q
  have hs1 := HS1.out
  have hal := HAL.out
  have hsz2 : w.heap.size + 2 ≤ w2.heap.size := by have := htk.size; omega
  have hsep : ∀ b, S b ∨ some b = (Value.slice V KS.length cp).ownBlock → w.heap.size + 2 ≤ b ∧ ∃ cs, Blk w2 b 38 cs := fun b hb => by
    rcases hb with hb | hb
    · exact ⟨(hT.sep b hb).2.1, (hT.sep b hb).2.2⟩
    · refine ⟨(hT.own.lt b hb.symm).1, ?_⟩
      rcases hT.own.2 with ⟨h1, _⟩ | ⟨g, cap, cur, h1, hb', hgg, _⟩
      · rw [h1] at hb; cases hb
      · rw [h1] at hb
        simp only [Value.ownBlock, Option.some.injEq] at hb
        subst hb
        exact ⟨_, hgg⟩
  have hkp : Keeps c w w2 := ⟨htk.os.trans hal.os, htk.tape.trans hal.tape, htk.output.trans hal.output, by omega, fun k h1 h2 h3 h4 => by
    have hx : w1.heap[k]? = w.heap[k]? := hal.block k h1
    exact (htk.blk k (by omega) h2 h3 (by rw [hx]; exact h4) (by omega) (by simp)).trans hx⟩
  have z0 : w2.cell? ⟨w.heap.size + 1, 0, none⟩ = some (.int .i64 i) := hbx2.cell 0
  have z1 : w2.cell? ⟨w.heap.size + 1, 1, none⟩ = some (.int .i64 p) := hbx2.cell 1
  have z2 : w2.cell? ⟨w.heap.size + 1, 2, none⟩ = some (.int .i64 0) := hbx2.cell 2
  have z3 : w2.cell? ⟨w.heap.size + 1, 3, none⟩ = some (.slice V KS.length cp) := hbx2.cell 3
  have f2 := hbx2.frozen 2
  have hres3 := hres2.far (p := ⟨w.heap.size + 1, 2, none⟩) (by show w.heap.size ≠ w.heap.size + 1; omega) (.int .i64 q)
  have yz0 : (w2.setCell ⟨w.heap.size + 1, 2, none⟩ (.int .i64 q)).cell? ⟨w.heap.size, 0, none⟩ = some (.int .i64 0) := hres3.cell 0; have yz1 : (w2.setCell ⟨w.heap.size + 1, 2, none⟩ (.int .i64 q)).cell? ⟨w.heap.size, 1, none⟩ = some (.int .i64 0) := hres3.cell 1; have yz2 : (w2.setCell ⟨w.heap.size + 1, 2, none⟩ (.int .i64 q)).cell? ⟨w.heap.size, 2, none⟩ = some (.int .i64 0) := hres3.cell 2; have yz3 : (w2.setCell ⟨w.heap.size + 1, 2, none⟩ (.int .i64 q)).cell? ⟨w.heap.size, 3, none⟩ = some (.slice none 0 0) := hres3.cell 3; have yf0 := hres3.frozen 0; have yf1 := hres3.frozen 1; have yf2 := hres3.frozen 2; have yf3 := hres3.frozen 3; have ye0 : ((w2.setCell ⟨w.heap.size + 1, 2, none⟩ (.int .i64 q)).setCell ⟨w.heap.size, 0, none⟩ (.int .i64 i)).cell? ⟨w.heap.size, 0, none⟩ = some (.int .i64 i) := (hres3.set_ 0 _).cell 0; have ye1 : (((w2.setCell ⟨w.heap.size + 1, 2, none⟩ (.int .i64 q)).setCell ⟨w.heap.size, 0, none⟩ (.int .i64 i)).setCell ⟨w.heap.size, 1, none⟩ (.int .i64 p)).cell? ⟨w.heap.size, 1, none⟩ = some (.int .i64 p) := ((hres3.set_ 0 _).set_ 1 _).cell 1; have ye2 : ((((w2.setCell ⟨w.heap.size + 1, 2, none⟩ (.int .i64 q)).setCell ⟨w.heap.size, 0, none⟩ (.int .i64 i)).setCell ⟨w.heap.size, 1, none⟩ (.int .i64 p)).setCell ⟨w.heap.size, 2, none⟩ (.int .i64 q)).cell? ⟨w.heap.size, 2, none⟩ = some (.int .i64 q) := (((hres3.set_ 0 _).set_ 1 _).set_ 2 _).cell 2; have ye3 : (((((w2.setCell ⟨w.heap.size + 1, 2, none⟩ (.int .i64 q)).setCell ⟨w.heap.size, 0, none⟩ (.int .i64 i)).setCell ⟨w.heap.size, 1, none⟩ (.int .i64 p)).setCell ⟨w.heap.size, 2, none⟩ (.int .i64 q)).setCell ⟨w.heap.size, 3, none⟩ (.slice V KS.length cp)).cell? ⟨w.heap.size, 3, none⟩ = some (.slice V KS.length cp) := ((((hres3.set_ 0 _).set_ 1 _).set_ 2 _).set_ 3 _).cell 3
  have HPP := Lib.hid (((((hpp2.far hok hbx2 (by decide) (by omega) 2 (.int .i64 q)).far hok hres3 (by decide) (by omega) 0 (.int .i64 i)).far hok (hres3.set_ 0 _) (by decide) (by omega) 1 (.int .i64 p)).far hok ((hres3.set_ 0 _).set_ 1 _) (by decide) (by omega) 2 (.int .i64 q)).far hok (((hres3.set_ 0 _).set_ 1 _).set_ 2 _) (by decide) (by omega) 3 (.slice V KS.length cp))
  have HKP := Lib.hid (((((hkp.far (k := w.heap.size + 1) (by omega) 2 (.int .i64 q)).far (k := w.heap.size) (by omega) 0 (.int .i64 i)).far (k := w.heap.size) (by omega) 1 (.int .i64 p)).far (k := w.heap.size) (by omega) 2 (.int .i64 q)).far (k := w.heap.size) (by omega) 3 (.slice V KS.length cp))
  have hheap : ∀ b, w.heap.size + 2 ≤ b → (((((w2.setCell ⟨w.heap.size + 1, 2, none⟩ (.int .i64 q)).setCell ⟨w.heap.size, 0, none⟩ (.int .i64 i)).setCell ⟨w.heap.size, 1, none⟩ (.int .i64 p)).setCell ⟨w.heap.size, 2, none⟩ (.int .i64 q)).setCell ⟨w.heap.size, 3, none⟩ (.slice V KS.length cp)).heap[b]? = w2.heap[b]? := fun b hb => by
    rw [Below.heap_setCell _ _ _ _ (by simp; omega), Below.heap_setCell _ _ _ _ (by simp; omega), Below.heap_setCell _ _ _ _ (by simp; omega), Below.heap_setCell _ _ _ _ (by simp; omega), Below.heap_setCell _ _ _ _ (by simp; omega)]
  have HTT := Lib.hid (hT2.keep (S' := fun b => S b ∨ some b = (Value.slice V KS.length cp).ownBlock) (fun _ h => h) fun p hp => World.cell?_of_block (hheap _ (hsep _ hp).1))
  have HSP : Hid (∀ b, (S b ∨ some b = (Value.slice V KS.length cp).ownBlock) → w.heap.size ≤ b ∧ ∃ cs, Blk (((((w2.setCell ⟨w.heap.size + 1, 2, none⟩ (.int .i64 q)).setCell ⟨w.heap.size, 0, none⟩ (.int .i64 i)).setCell ⟨w.heap.size, 1, none⟩ (.int .i64 p)).setCell ⟨w.heap.size, 2, none⟩ (.int .i64 q)).setCell ⟨w.heap.size, 3, none⟩ (.slice V KS.length cp)) b 38 cs) := fun b hb => by
    obtain ⟨h1, cs, h2⟩ := hsep b hb
    exact ⟨by omega, cs, (hheap b h1).trans h2⟩
  clear hT hT2 hsep hkp hheap htk hpp2 hmv hres2 hbx2 hres3 HC HR e0 e1 e2 e3 e4 e5 e6 e7 s0 b0 hal hs1
  go_wp2
  exact bodyPost_ret (v := .agg #[.int .i64 i, .int .i64 p, .int .i64 q, .slice V KS.length cp]) (by simp [results, Try.results22, go_sem, ye0, ye1, ye2, ye3]) rfl ⟨HPP.out, HKP.out, V, cp, (fun b => S b ∨ some b = (Value.slice V KS.length cp).ownBlock), rfl, HTT.out, HSP.out⟩

set_option maxRecDepth 100000 in
set_option maxHeartbeats 4000000 in
/-- no tree is taken -/
theorem twalk_none {c : PC} (hok : c.Ok) {k a b d1 d2 : Int} {t : ByteArray} {A : Option Addr} {m cp p q bb base tb : Nat} {r f : Int} {ts : List Tr} {own : Option Nat} {w : World} (hk : k = 1 ∨ k = 10 ∨ k = 11) (hq : q = p) (hpp : PP c w) (hT : TBx c w base tb r f ts own) :
    Calls Try.prog 36 #[.pointer (some ⟨bb, 0, none⟩), .agg #[.int .i64 k, .int .u64 a, .int .u64 b, .int .u64 d1, .int .u64 d2, .string t, .slice A m cp], .int .i64 p, .pointer (some ⟨tb, 3, none⟩)] w (TWalkQ c base tb r f ts own q w) := by
  subst hq
  have hal : Below w.heap.size w (w.alloc (.cells #[.int .i64 k, .int .u64 a, .int .u64 b, .int .u64 d1, .int .u64 d2, .string t, .slice A m cp] 27)) := (by repeat (first | exact Below.refl _ _ | assumption | refine Below.drew ?_ | refine below_drewN ?_ _ | refine Below.alloc ?_ (by first | omega | (simp; omega) | simp) _ | refine Below.setCell ?_ (by first | omega | (simp; omega) | simp) _))
  have HQ : Hid (TWalkQ c base tb r f ts own q w (.returned (.int .i64 q)) (w.alloc (.cells #[.int .i64 k, .int .u64 a, .int .u64 b, .int .u64 d1, .int .u64 d2, .string t, .slice A m cp] 27))) := ⟨rfl, hpp.below hok hal, own, hT.below hok hal, Moved.refl _ _, Tk.of_keeps (Keeps.of_below hal)⟩
  clear hpp hT hal
  rcases hk with rfl | rfl | rfl
  all_goals
    go_enter Try.func36, Try.ntmps36
    go_wp2
    go_ret
    exact HQ.out
set_option maxRecDepth 100000 in
set_option maxHeartbeats 4000000 in
theorem twalk_set {c : PC} (hok : c.Ok) {a b d1 d2 : Int} {t : ByteArray} {A : Option Addr} {m cp p bb base tb : Nat} {r f : Int} {ts : List Tr} {own : Option Nat} {w : World} (hp : p ≤ 1000) (hpp : PP c w) (hT : TBx c w base tb r f ts own) :
    Calls Try.prog 36 #[.pointer (some ⟨bb, 0, none⟩), .agg #[.int .i64 2, .int .u64 a, .int .u64 b, .int .u64 d1, .int .u64 d2, .string t, .slice A m cp], .int .i64 p, .pointer (some ⟨tb, 3, none⟩)] w (TWalkQ c base tb r f ts own (p + 1) w) := by
  have hal : Below w.heap.size w (w.alloc (.cells #[.int .i64 2, .int .u64 a, .int .u64 b, .int .u64 d1, .int .u64 d2, .string t, .slice A m cp] 27)) := (by repeat (first | exact Below.refl _ _ | assumption | refine Below.drew ?_ | refine below_drewN ?_ _ | refine Below.alloc ?_ (by first | omega | (simp; omega) | simp) _ | refine Below.setCell ?_ (by first | omega | (simp; omega) | simp) _))
  have HQ : Hid (TWalkQ c base tb r f ts own (p + 1) w (.returned (.int .i64 ((p : Int) + 1))) (w.alloc (.cells #[.int .i64 2, .int .u64 a, .int .u64 b, .int .u64 d1, .int .u64 d2, .string t, .slice A m cp] 27))) := ⟨rfl, hpp.below hok hal, own, hT.below hok hal, Moved.refl _ _, Tk.of_keeps (Keeps.of_below hal)⟩
  clear hpp hT hal
  go_enter Try.func36, Try.ntmps36
  go_wp2
  go_ret
  exact HQ.out
set_option maxRecDepth 100000 in
set_option maxHeartbeats 4000000 in
theorem twalk_lit {c : PC} (hok : c.Ok) {a b d1 d2 : Int} {t : ByteArray} {A : Option Addr} {m cp p bb base tb : Nat} {r f : Int} {ts : List Tr} {own : Option Nat} {w : World} (hp : p ≤ 1000) (ht : t.size ≤ 1000) (hpp : PP c w) (hT : TBx c w base tb r f ts own) :
    Calls Try.prog 36 #[.pointer (some ⟨bb, 0, none⟩), .agg #[.int .i64 3, .int .u64 a, .int .u64 b, .int .u64 d1, .int .u64 d2, .string t, .slice A m cp], .int .i64 p, .pointer (some ⟨tb, 3, none⟩)] w (TWalkQ c base tb r f ts own (p + t.size) w) := by
  have hal : Below w.heap.size w (w.alloc (.cells #[.int .i64 3, .int .u64 a, .int .u64 b, .int .u64 d1, .int .u64 d2, .string t, .slice A m cp] 27)) := (by repeat (first | exact Below.refl _ _ | assumption | refine Below.drew ?_ | refine below_drewN ?_ _ | refine Below.alloc ?_ (by first | omega | (simp; omega) | simp) _ | refine Below.setCell ?_ (by first | omega | (simp; omega) | simp) _))
  have HQ : Hid (TWalkQ c base tb r f ts own (p + t.size) w (.returned (.int .i64 ((p : Int) + t.size))) (w.alloc (.cells #[.int .i64 3, .int .u64 a, .int .u64 b, .int .u64 d1, .int .u64 d2, .string t, .slice A m cp] 27))) := ⟨rfl, hpp.below hok hal, own, hT.below hok hal, Moved.refl _ _, Tk.of_keeps (Keeps.of_below hal)⟩
  clear hpp hT hal
  go_enter Try.func36, Try.ntmps36
  go_wp2
  go_ret
  exact HQ.out
end Go.Proofs.Ytndhbdbfjkmloaa
