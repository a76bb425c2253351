/- Trees while they are made: the parser, Does, the tree's block and its row of kids. -/
import Derived.Test.YtkmcnekjimobhaaXD
import Derived.Test.YtkmcnekjimobhaaTnP
import Derived.Test.YtkmcnekjimobhaaTr6
import Derived.Test.YtkmcnekjimobhaaQSpw
namespace Go.Proofs.Ytkmcnekjimobhaa
open Go.RowKit Go.Maps

/-- a parser whose memory agrees with what the grammar means -/
def PP (c : PC) (w : World) : Prop := ∃ σ, Par c w σ ∧ Agree c.g c.s.data.toList σ ∧ Bound c.s.data.toList.length σ
section
variable {c : PC} {w w' : World}
theorem PP.below (h : PP c w) (hok : c.Ok) (hb : Below w.heap.size w w') : PP c w' := by
  obtain ⟨σ, h1, h2, h3⟩ := h
  exact ⟨σ, h1.below hok hb, h2, h3⟩
theorem PP.drew (h : PP c w) : PP c w.drew := by
  obtain ⟨σ, h1, h2, h3⟩ := h
  exact ⟨σ, h1.drew, h2, h3⟩
theorem PP.c0 (h : PP c w) : w.cell? ⟨c.P, 0, none⟩ = some (.slice c.A c.n c.cp) := h.choose_spec.1.c0
theorem PP.size (h : PP c w) : c.base ≤ w.heap.size := h.choose_spec.1.size
theorem PP.gram (h : PP c w) : GrIs w c.B c.g c.A c.cp c.row := h.choose_spec.1.gram
theorem PP.far (h : PP c w) (hok : c.Ok) {k : Nat} {T : TypeId} {cs : Array Value} (hb : Blk w k T cs) (hT : T ≠ 159) (h3 : c.base ≤ k) (j : Nat) (u : Value) : PP c (w.setCell ⟨k, j, none⟩ u) := by
  obtain ⟨σ, h1, h2, h4⟩ := h
  have := hok.P
  have := hok.M
  exact ⟨σ, h1.far hok hb hT (by omega) (by omega) h3 j u, h2, h4⟩
/-- a row of another type grows -/
theorem PP.grown (h : PP c w) (hok : c.Ok) {v : Value} {base n size : Nat} {T : TypeId} {xs : List Value} (hT : T ≠ 159) (ho : w.ownsRow base T size v n xs) (hb : c.base ≤ base) (hg : w.grownBy w' v.ownBlock) : PP c w' := by
  obtain ⟨σ, ⟨⟨lv, a1, a2⟩, a3, a4, a5, a6, a7, a8⟩, h2, h4⟩ := h
  have hne : ∀ k, k < c.base → some k ≠ v.ownBlock := fun k hk e => by have := (ho.lt k e.symm).1; omega
  have hP := hok.P
  have hM := hok.M
  have hF := hok.F
  have hl : lv.ownBlock = none ∨ lv.ownBlock ≠ v.ownBlock := by
    cases hv : lv.ownBlock with
    | none => exact .inl rfl
    | some k =>
      refine .inr fun e => ?_
      rcases a2.2 with ⟨rfl, _⟩ | ⟨g, cap, cur, rfl, hb', hgg, _⟩
      · cases hv
      · rcases ho.2 with ⟨rfl, _⟩ | ⟨g2, cap2, cur2, rfl, hb2, hgg2, _⟩
        · cases e
        · simp only [Value.ownBlock, Option.some.injEq] at hv e
          subst hv
          subst e
          rw [hgg] at hgg2
          injection hgg2 with hgg2
          injection hgg2 with e1 e2 e3
          exact hT e2.symm
  refine ⟨σ, ⟨⟨lv, a1.grown hg (hne _ hP), a2.kept hg hl⟩, a3.kept hg (hne _ hM.1), fun i x hi => (World.cell?_of_block (hg.block _ (by simp; omega) (hne _ hF))).trans (a4 i x hi), Nat.le_trans a5 hg.size, a6.on ⟨hg.os, hg.tape, hg.output, hg.size, fun k hk => ?_⟩, a7, a8.keep fun k hh hk he => hg.block k hk (hne _ ?_)⟩, h2, h4⟩
  · have := hok.Bb
    exact hg.block k (by omega) (hne _ (by omega))
  · have := hok.bx hh
    omega
end

set_option maxRecDepth 100000 in
set_option maxHeartbeats 4000000 in
theorem doesb_any {c : PC} (hok : c.Ok) {g : List Rl} {m : Nat} (hN : DoesNode c g m) (e : Ex) (p : Nat) (σ : PS) (r : Option Nat × PS) (cs : List Value) (w : World) (hpk : pk g c.s.data.toList c.hk m (.node e 0) p σ = some r) (hE : ExIs w c.B e cs) (hR : RtW g e) (hnum : nodes e ≤ c.lim)
    (hp : p ≤ c.s.data.toList.length) (hB : Bound c.s.data.toList.length σ) (h : Par c w σ) :
    Calls Try.prog 112 #[.pointer (some ⟨c.P, 0, none⟩), .agg cs.toArray, .int .i64 p] w fun e' w' => e' = .returned (.bool r.1.isSome) ∧ Par c w' r.2 ∧ Keeps c w w' := by
  have hsz := h.size
  have hb1 := hok.Bb
  obtain ⟨k, a, b, d1, d2, t, A, n, cp, rfl⟩ := e.parts hE
  have hal : Below w.heap.size w (w.alloc (.cells #[.int .i64 k, .int .u64 a, .int .u64 b, .int .u64 d1, .int .u64 d2, .string t, .slice A n cp] 37)) := (Below.refl _ _).alloc (Nat.le_refl _) _
  have hcall := hN e 0 p σ r _ _ hpk (hE.on (hal.mono (by omega))) hR (by omega) hp hB (h.below hok hal)
  have HC := Lib.hid hcall
  clear hcall hE hpk
  go_enter Try.func112, Try.ntmps112
  go_wp2_with fail
  refine HC.out.mono ?_
  rintro e' w1 ⟨⟨z, rfl, hz⟩, h1, h2⟩
  go_wp2
  go_ret
  exact ⟨rfl, h1, (Keeps.of_below hal).trans h2⟩

/-- does it do at a place? -/
theorem does_ev {c : PC} (F : c.Fit) (W : WellG c.g) {e : Ex} {cs : List Value} {p n : Nat} {o : Option Nat} {w : World} (hE : ExIs w c.B e cs) (hR : RtW c.g e) (hn : nodes e ≤ c.lim) (hp : p ≤ c.s.data.toList.length) (hev : evJ c.g c.s.data.toList n (.ex e) p = some o) (h : PP c w) :
    Calls Try.prog 112 #[.pointer (some ⟨c.P, 0, none⟩), .agg cs.toArray, .int .i64 p] w fun e' w' => e' = .returned (.bool o.isSome) ∧ PP c w' ∧ Keeps c w w' := by
  obtain ⟨σ, h1, h2, h3⟩ := h
  obtain ⟨m, σ1, hpk, hag, _⟩ := (goes (hook := c.hk) (fits_of W.right) n).1 e p o hR.1 hp hev σ 0 h2
  refine (doesb_any F.ok (does F m).1 e p σ (o, σ1) cs w hpk hE hR hn hp h3 h1).mono ?_
  rintro e' w' ⟨rfl, q1, q2⟩
  exact ⟨rfl, ⟨σ1, q1, hag, (pk_bound _ _ _ _ _ _ _ _ _ hpk hp h3).2⟩, q2⟩

/-- the block of a tree that is made, and its row of kids -/
structure TB (c : PC) (w : World) (base tb : Nat) (r f : Int) (ts : List Tr) (V : Option Addr) (cp : Nat) (xs : List Value) (S : Nat → Prop) : Prop where
  lo : c.base ≤ tb ∧ tb < base ∧ base ≤ w.heap.size
  box : Blk w tb 27 #[.int .i64 r, .int .i64 f, .int .i64 0, .slice V ts.length cp]
  own : w.ownsRow base 27 4 (.slice V ts.length cp) ts.length xs
  kids : KidsAre w S ts xs
  sep : ∀ b, S b → some b ≠ (Value.slice V ts.length cp).ownBlock ∧ base ≤ b ∧ ∃ cs, Blk w b 27 cs
/-- the same, all of it hidden but the row's block -/
def TBx (c : PC) (w : World) (base tb : Nat) (r f : Int) (ts : List Tr) (own : Option Nat) : Prop := ∃ V cp xs S, own = (Value.slice V ts.length cp).ownBlock ∧ TB c w base tb r f ts V cp xs S
/-- all stands but the parser's own, the tree's block and the row's -/
structure Tk (c : PC) (tb : Nat) (r : Option Nat) (w w' : World) : Prop where
  os : w'.os = w.os
  tape : w'.tape = w.tape
  output : w'.output = w.output
  size : w.heap.size ≤ w'.heap.size
  blk : ∀ k, k < w.heap.size → k ≠ c.P → (k ≠ c.M ∧ k ≠ c.ob) → (k < c.base ∨ ∀ cs fr, w.heap[k]? ≠ some (.cells cs 159 fr)) → k ≠ tb → some k ≠ r → w'.heap[k]? = w.heap[k]?
section
variable {c : PC} {w w' w'' : World} {base tb : Nat} {r f : Int} {ts : List Tr} {own own' : Option Nat} {V : Option Addr} {cp : Nat} {xs : List Value} {S : Nat → Prop}
theorem Tk.of_keeps (h : Keeps c w w') : Tk c tb own w w' := ⟨h.os, h.tape, h.output, h.size, fun k h1 h2 h3 h4 _ _ => h.blk k h1 h2 h3 h4⟩
theorem Tk.refl (c : PC) (tb : Nat) (own : Option Nat) (w : World) : Tk c tb own w w := Tk.of_keeps (Keeps.refl c w)
/-- the row's block is the old one, or new -/
def Moved (w : World) (own own' : Option Nat) : Prop := own' = own ∨ ∃ k, own' = some k ∧ w.heap.size ≤ k
theorem Moved.refl (w : World) (own : Option Nat) : Moved w own own := .inl rfl
theorem Tk.trans (h : Tk c tb own w w') (h' : Tk c tb own' w' w'') (hm : Moved w own own') : Tk c tb own w w'' :=
  ⟨h'.os.trans h.os, h'.tape.trans h.tape, h'.output.trans h.output, Nat.le_trans h.size h'.size, fun k h1 h2 h3 h4 h5 h6 => by
    have e := h.blk k h1 h2 h3 h4 h5 h6
    rw [← e]
    refine h'.blk k (Nat.lt_of_lt_of_le h1 h.size) h2 h3 ?_ h5 ?_
    · rcases h4 with h4 | h4
      · exact .inl h4
      · exact .inr (by rw [e]; exact h4)
    · rcases hm with rfl | ⟨q, rfl, hq⟩
      · exact h6
      · intro e; injection e with e; omega⟩
theorem Moved.trans {own'' : Option Nat} (h : Moved w own own') (h' : Moved w' own' own'') (hs : w.heap.size ≤ w'.heap.size) : Moved w own own'' := by
  rcases h' with rfl | ⟨q, rfl, hq⟩
  · exact h
  · exact .inr ⟨q, rfl, by omega⟩
theorem Tk.box {k : Nat} {T : TypeId} {cs : Array Value} (h : Tk c tb own w w') (hb : Blk w k T cs) (hT : T ≠ 159) (h1 : k ≠ c.P) (h2 : k ≠ c.M ∧ k ≠ c.ob) (h3 : k ≠ tb) (h4 : some k ≠ own) : Blk w' k T cs :=
  (h.blk k hb.lt h1 h2 (.inr fun cs' fr e => by
    have hb' : w.heap[k]? = some (.cells cs T (0, 0)) := hb
    rw [hb'] at e
    injection e with e
    injection e with e1 e2 e3
    exact hT e2) h3 h4).trans hb
theorem Tk.below (h : Tk c tb own w w') {B : Nat} (hB : B ≤ w.heap.size) (h1 : B ≤ c.P) (h2 : B ≤ c.M ∧ B ≤ c.ob) (h3 : B ≤ c.base) (h4 : B ≤ tb) (h5 : ∀ k, own = some k → B ≤ k) : Below B w w' :=
  ⟨h.os, h.tape, h.output, h.size, fun k hk => h.blk k (by omega) (by omega) (by omega) (.inl (by omega)) (by omega) (fun e => by have := h5 k e.symm; omega)⟩
theorem TB.own_lt (h : TB c w base tb r f ts V cp xs S) : ∀ k, (Value.slice V ts.length cp).ownBlock = some k → base ≤ k ∧ k < w.heap.size := fun k hk => h.own.lt k hk
theorem TBx.own_lt (h : TBx c w base tb r f ts own) : ∀ k, own = some k → base ≤ k ∧ k < w.heap.size := by
  obtain ⟨V, cp, xs, S, rfl, h⟩ := h
  exact h.own_lt
theorem TBx.lo (h : TBx c w base tb r f ts own) : c.base ≤ tb ∧ tb < base ∧ base ≤ w.heap.size := by
  obtain ⟨V, cp, xs, S, rfl, h⟩ := h
  exact h.lo
/-- a block of another type is not the row's -/
theorem TBx.ne {k : Nat} {T : TypeId} {cs : Array Value} (h : TBx c w base tb r f ts own) (hb : Blk w k T cs) (hT : T ≠ 27) : k ≠ tb ∧ some k ≠ own := by
  obtain ⟨V, cp, xs, S, rfl, h⟩ := h
  have hk : w.heap[k]? = some (.cells cs T (0, 0)) := hb
  constructor
  · rintro rfl
    have h2 : w.heap[k]? = some (.cells _ 27 (0, 0)) := h.box
    rw [hk] at h2
    injection h2 with h2
    injection h2 with e1 e2 e3
    exact hT e2
  · intro e
    rcases h.own.2 with ⟨h1, _⟩ | ⟨g, cap, cur, h1, hb', hgg, _⟩
    · rw [h1] at e; cases e
    · rw [h1] at e
      simp only [Value.ownBlock, Option.some.injEq] at e
      subst e
      rw [hk] at hgg
      injection hgg with hgg
      injection hgg with e1 e2 e3
      exact hT e2
/-- what the parser does leaves it -/
theorem TB.keeps (h : TB c w base tb r f ts V cp xs S) (hok : c.Ok) (hk : Keeps c w w') : TB c w' base tb r f ts V cp xs S := by
  have hP := hok.P
  have hM := hok.M
  obtain ⟨l1, l2, l3⟩ := h.lo
  have hbx : ∀ b, c.base ≤ b → ∀ cs, Blk w b 27 cs → Blk w' b 27 cs := fun b hb cs hcs => hk.box hcs (by decide) (by omega) (by omega)
  have hheap : ∀ b, base ≤ b → (∃ cs, Blk w b 27 cs) → w'.heap[b]? = w.heap[b]? := fun b hb ⟨cs, hcs⟩ => (hbx b (by omega) cs hcs : w'.heap[b]? = _).trans (hcs : w.heap[b]? = _).symm
  refine ⟨⟨l1, l2, Nat.le_trans l3 hk.size⟩, hbx _ l1 _ h.box, own_heap h.own fun b hb => hheap b (h.own.lt b hb).1 ?_, h.kids.keep (fun _ h => h) (fun p hp => World.cell?_of_block (hheap _ (h.sep _ hp).2.1 (h.sep _ hp).2.2)), fun b hb => ?_⟩
  · rcases h.own.2 with ⟨h1, _⟩ | ⟨g, cap, cur, h1, hb', hgg, _⟩
    · rw [h1] at hb; cases hb
    · rw [h1] at hb
      simp only [Value.ownBlock, Option.some.injEq] at hb
      subst hb
      exact ⟨_, hgg⟩
  · obtain ⟨s1, s2, cs, s3⟩ := h.sep b hb
    exact ⟨s1, s2, cs, hbx b (by omega) cs s3⟩
theorem TBx.keeps (h : TBx c w base tb r f ts own) (hok : c.Ok) (hk : Keeps c w w') : TBx c w' base tb r f ts own := by
  obtain ⟨V, cp, xs, S, rfl, h⟩ := h
  exact ⟨V, cp, xs, S, rfl, h.keeps hok hk⟩
theorem TBx.below (h : TBx c w base tb r f ts own) (hok : c.Ok) (hb : Below w.heap.size w w') : TBx c w' base tb r f ts own := h.keeps hok (Keeps.of_below hb)
end
/-- a tree out of its row of kids -/
theorem tree_of_row {w : World} {S : Nat → Prop} {base : Nat} {ks : List Tr} {A : Option Addr} {c : Nat} {kxs : List Value} (h1 : w.ownsRow base 27 4 (.slice A ks.length c) ks.length kxs) (h2 : KidsAre w S ks kxs) (r f a : Int) :
    TrIs w (fun b => S b ∨ some b = (Value.slice A ks.length c).ownBlock) (.mk r f a ks) [.int .i64 r, .int .i64 f, .int .i64 a, .slice A ks.length c] := by
  have hb : 0 < ks.length → ∃ ad : Addr, A = some ad ∧ (S ad.block ∨ some ad.block = (Value.slice A ks.length c).ownBlock) := by
    intro h0
    obtain ⟨g', c', hv', _, _⟩ := h1.form h0
    simp only [Value.slice.injEq] at hv'
    obtain ⟨rfl, -, -⟩ := hv'
    exact ⟨_, rfl, .inr rfl⟩
  have hcap : ks.length ≤ c ∧ c ≤ maxLen := by
    rcases h1.2 with ⟨e, e2⟩ | ⟨g', c', cur, e, _, _, e1, e2, _⟩
    · simp only [Value.slice.injEq] at e
      rw [e.2.1, e.2.2]
      exact ⟨Nat.le_refl _, by unfold maxLen; omega⟩
    · simp only [Value.slice.injEq] at e
      rw [e.2.2]
      exact ⟨e1, e2⟩
  have hrow : ∀ i, i < ks.length → ∃ c, (∀ t, ks[i]? = some t → TrIs w S t c) ∧ ∀ j u, c[j]? = some u → kxs[i * 4 + j]? = some u := by
    intro i hi
    obtain ⟨c, hc1, hc2⟩ := h2.at_ i _ (List.getElem?_eq_getElem hi)
    exact ⟨c, fun t ht => by rw [List.getElem?_eq_getElem hi] at ht; injection ht with ht; rw [← ht]; exact hc1, hc2⟩
  obtain ⟨q, hq⟩ := @tr_row (List Value) ⟨[]⟩ _ _ hrow
  refine .mk r f a ks A c q hcap.1 hcap.2 hb (fun i t ht => ((hq i (getElem?_lt ht)).1 t ht).keep (fun b h => .inl h) (fun _ _ => rfl)) (fun i t ad ht hA j u hu => ?_)
  obtain ⟨g', c', hv', _, _⟩ := h1.form (by have := getElem?_lt ht; omega)
  simp only [Value.slice.injEq] at hv'
  rw [hA] at hv'
  obtain ⟨e, -, -⟩ := hv'
  injection e with e
  subst e
  subst hA
  have := h1.cells (g := g') rfl (i * 4 + j) u ((hq i (getElem?_lt ht)).2 j u hu)
  rw [add_add']
  exact this

/-- what (*builder).rule answers -/
def TRuleQ (c : PC) (i p q : Nat) (ks : List Tr) (w : World) (e : Ending) (w' : World) : Prop := PP c w' ∧ Keeps c w w' ∧ ∃ V cp S, e = .returned (.agg #[.int .i64 i, .int .i64 p, .int .i64 q, .slice V ks.length cp]) ∧
  TrIs w' S (.mk i p q ks) [.int .i64 i, .int .i64 p, .int .i64 q, .slice V ks.length cp] ∧ ∀ b, S b → w.heap.size ≤ b ∧ ∃ cs, Blk w' b 27 cs
/-- what (*builder).walk answers -/
def TWalkQ (c : PC) (base tb : Nat) (r f : Int) (ts : List Tr) (own : Option Nat) (q : Nat) (w : World) (e : Ending) (w' : World) : Prop := e = .returned (.int .i64 q) ∧ PP c w' ∧ ∃ own' , TBx c w' base tb r f ts own' ∧ Moved w own own' ∧ Tk c tb own w w'
def BdOk (c : PC) (bb : Nat) (w : World) : Prop := c.base ≤ bb ∧ Blk w bb 92 #[.pointer (some ⟨c.P, 0, none⟩)]
def DoesWalk (c : PC) (n : Nat) : Prop := ∀ (e : Ex) (p q : Nat) (cs : List Value) (bb base tb : Nat) (r f : Int) (ts : List Tr) (own : Option Nat) (w : World), evJ c.g c.s.data.toList n (.ex e) p = some (some q) → ExIs w c.B e cs → RtW c.g e → nodes e ≤ c.lim → p ≤ c.s.data.toList.length →
  PP c w → BdOk c bb w → TBx c w base tb r f ts own → ts.length + (trJ c.g c.s.data.toList n (.ex e) p).length ≤ 15000000 → Calls Try.prog 81 #[.pointer (some ⟨bb, 0, none⟩), .agg cs.toArray, .int .i64 p, .pointer (some ⟨tb, 3, none⟩)] w (TWalkQ c base tb r f (ts ++ trJ c.g c.s.data.toList n (.ex e) p) own q w)
def DoesTRule (c : PC) (n : Nat) : Prop := ∀ (i p q : Nat) (r : Rl) (bb : Nat) (w : World), c.g[i]? = some r → evJ c.g c.s.data.toList n (.ex r.2) p = some (some q) → p ≤ c.s.data.toList.length → PP c w → BdOk c bb w →
  Calls Try.prog 46 #[.pointer (some ⟨bb, 0, none⟩), .int .i64 i, .int .i64 p] w (TRuleQ c i p q (trJ c.g c.s.data.toList n (.ex r.2) p) w)
theorem BdOk.tk {c : PC} {bb base tb : Nat} {r f : Int} {ts : List Tr} {own : Option Nat} {w w' : World} (h : BdOk c bb w) (hok : c.Ok) (hT : TBx c w base tb r f ts own) (hk : Tk c tb own w w') : BdOk c bb w' := by
  have hne := hT.ne h.2 (by decide)
  have hP := hok.P
  have hM := hok.M
  have h1 := h.1
  exact ⟨h1, hk.box h.2 (by decide) (by omega) (by omega) hne.1 hne.2⟩
theorem BdOk.keeps {c : PC} {bb : Nat} {w w' : World} (h : BdOk c bb w) (hok : c.Ok) (hk : Keeps c w w') : BdOk c bb w' := by
  have hP := hok.P
  have hM := hok.M
  have h1 := h.1
  exact ⟨h1, hk.box h.2 (by decide) (by omega) (by omega)⟩
end Go.Proofs.Ytkmcnekjimobhaa
