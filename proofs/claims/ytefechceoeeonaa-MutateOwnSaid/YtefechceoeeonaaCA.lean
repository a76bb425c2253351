/- mutate.Mutants: mutants in a row, while they are made. -/
import Derived.Test.YtefechceoeeonaaMA
import Derived.Test.YtefechceoeeonaaKdR
import Derived.Test.YtefechceoeeonaaKdA
import Derived.Test.YtefechceoeeonaaRA
import Derived.Deep.DeepCutAuto
import Derived.Test.YtefechceoeeonaaRB
namespace Go.Proofs.Ytefechceoeeonaa
open Go.RowKit Go.Maps

theorem k8x_rt {g : List Rl} {e : Ex} (h : Rt g e) : K8x e := by
  induction h with
  | mk k a b c d t ks hf _ _ ih => exact .mk k a b c d t ks (fit_len hf) (fun hk => by
    rcases fit_cases hf with x | x | x | x | x | x | x <;> rcases hk with rfl | rfl <;> simp at x <;> omega) ih
theorem k8_rt' {g : List Rl} {e : Ex} (h : Rt g e) : K8 e := by
  induction h with
  | mk k a b c d t ks hf _ _ ih => exact .mk k a b c d t ks (fit_len hf) ih
theorem mutFrom_app (g : List Rl) : ∀ (l l' : List Rl) (i : Nat), mutFrom g (l ++ l') i = mutFrom g l i ++ mutFrom g l' (i + l.length)
  | [], l', i => by simp [mutFrom]
  | r :: l, l', i => by
    rw [List.cons_append, mutFrom, mutFrom, mutFrom_app g l l' (i + 1), List.append_assoc, List.length_cons, show i + 1 + l.length = i + (l.length + 1) by omega]
theorem mutFrom_snoc {g : List Rl} {m : Nat} {r : Rl} (h : g[m]? = some r) : mutFrom g (g.take (m + 1)) 0 = mutFrom g (g.take m) 0 ++ ((allE r.2).map (fun x => putB g m x)).filter (fun m => (wellG m).2 = 0) := by
  rw [take_succ_of h, mutFrom_app, List.length_take, Nat.min_eq_left (Nat.le_of_lt (getElem?_lt h)), Nat.zero_add]
  simp [mutFrom]
theorem mut_pre {g : List Rl} {m : Nat} {r : Rl} {q : Nat} (h : g[m]? = some r) : (mutFrom g (g.take m) 0 ++ (((allE r.2).take q).map (fun x => putB g m x)).filter (fun m => (wellG m).2 = 0)).length ≤ (mutG g).length := by
  have h1 := mutFrom_snoc h
  have h2 := mutFrom_app g (g.take (m + 1)) (g.drop (m + 1)) 0
  rw [List.take_append_drop, h1] at h2
  have h3 : ((((allE r.2).take q).map (fun x => putB g m x)).filter (fun m => decide ((wellG m).2 = 0))).length ≤ (((allE r.2).map (fun x => putB g m x)).filter (fun m => decide ((wellG m).2 = 0))).length := by
    conv => rhs; rw [← List.take_append_drop q (allE r.2), List.map_append, List.filter_append, List.length_append]
    omega
  unfold mutG
  rw [h2]
  simp only [List.length_append]
  omega
/-- the body of a rule in its box is stored over -/
theorem rule_set7 {W : World} {g : Nat} {t : TypeId} {s u0 u1 u2 u3 u4 u5 u6 : Value} (h : Blk W g t #[s, u0, u1, u2, u3, u4, u5, u6]) (v0 v1 v2 v3 v4 v5 v6 : Value) : Blk (((((((W.setCell ⟨g, 1, none⟩ v0).setCell ⟨g, 2, none⟩ v1).setCell ⟨g, 3, none⟩ v2).setCell ⟨g, 4, none⟩ v3).setCell ⟨g, 5, none⟩ v4).setCell ⟨g, 6, none⟩ v5).setCell ⟨g, 7, none⟩ v6) g t #[s, v0, v1, v2, v3, v4, v5, v6] := by
  have h1 : Blk (W.setCell ⟨g, 1, none⟩ v0) g t #[s, v0, u1, u2, u3, u4, u5, u6] := h.set_ 1 v0
  have h2 : Blk ((W.setCell ⟨g, 1, none⟩ v0).setCell ⟨g, 2, none⟩ v1) g t #[s, v0, v1, u2, u3, u4, u5, u6] := h1.set_ 2 v1
  have h3 : Blk (((W.setCell ⟨g, 1, none⟩ v0).setCell ⟨g, 2, none⟩ v1).setCell ⟨g, 3, none⟩ v2) g t #[s, v0, v1, v2, u3, u4, u5, u6] := h2.set_ 3 v2
  have h4 : Blk ((((W.setCell ⟨g, 1, none⟩ v0).setCell ⟨g, 2, none⟩ v1).setCell ⟨g, 3, none⟩ v2).setCell ⟨g, 4, none⟩ v3) g t #[s, v0, v1, v2, v3, u4, u5, u6] := h3.set_ 4 v3
  have h5 : Blk (((((W.setCell ⟨g, 1, none⟩ v0).setCell ⟨g, 2, none⟩ v1).setCell ⟨g, 3, none⟩ v2).setCell ⟨g, 4, none⟩ v3).setCell ⟨g, 5, none⟩ v4) g t #[s, v0, v1, v2, v3, v4, u5, u6] := h4.set_ 5 v4
  have h6 : Blk ((((((W.setCell ⟨g, 1, none⟩ v0).setCell ⟨g, 2, none⟩ v1).setCell ⟨g, 3, none⟩ v2).setCell ⟨g, 4, none⟩ v3).setCell ⟨g, 5, none⟩ v4).setCell ⟨g, 6, none⟩ v5) g t #[s, v0, v1, v2, v3, v4, v5, u6] := h5.set_ 6 v5
  have h7 : Blk (((((((W.setCell ⟨g, 1, none⟩ v0).setCell ⟨g, 2, none⟩ v1).setCell ⟨g, 3, none⟩ v2).setCell ⟨g, 4, none⟩ v3).setCell ⟨g, 5, none⟩ v4).setCell ⟨g, 6, none⟩ v5).setCell ⟨g, 7, none⟩ v6) g t #[s, v0, v1, v2, v3, v4, v5, v6] := h6.set_ 7 v6
  exact h7
theorem below_set7' {B k : Nat} {w W : World} (h : Below B w W) (hk : B ≤ k) (v0 v1 v2 v3 v4 v5 v6 : Value) : Below B w (((((((W.setCell ⟨k, 1, none⟩ v0).setCell ⟨k, 2, none⟩ v1).setCell ⟨k, 3, none⟩ v2).setCell ⟨k, 4, none⟩ v3).setCell ⟨k, 5, none⟩ v4).setCell ⟨k, 6, none⟩ v5).setCell ⟨k, 7, none⟩ v6) := (((((((h.setCell hk _).setCell hk _).setCell hk _).setCell hk _).setCell hk _).setCell hk _).setCell hk _)
/-- a mutant in memory -/
structure Mt where
  A : Option Addr
  g : List Rl
  cp : Nat
  row : Nat → List Value
  lo : Nat
  hi : Nat
def Mt.val (m : Mt) : Value := .slice m.A m.g.length m.cp
/-- mutants in a row of one's own: each rests on blocks of its own -/
structure Mts (base : Nat) (W : World) (ms : List Mt) (V : Option Addr) (c : Nat) : Prop where
  own : W.ownsRow base 24 1 (.slice V ms.length c) ms.length (ms.map Mt.val)
  gr : ∀ m ∈ ms, GrF (fun b => m.lo ≤ b ∧ b < m.hi) W.heap.size W m.g m.A m.cp m.row ∧ base ≤ m.lo ∧ m.hi ≤ W.heap.size ∧ ∀ q, (Value.slice V ms.length c).ownBlock = some q → ¬ (m.lo ≤ q ∧ q < m.hi)
  apart : ms.Pairwise fun a b => a.hi ≤ b.lo
section
variable {base : Nat} {W W' : World} {ms : List Mt} {V : Option Addr} {c : Nat}
theorem Mts.nil (base : Nat) (W : World) : Mts base W [] none 0 := ⟨World.ownsRow_nil _ _ _ _, fun m h => (by cases h), List.Pairwise.nil⟩
theorem Mts.below (h : Mts base W ms V c) (hb : Below W.heap.size W W') : Mts base W' ms V c :=
  ⟨own_below h.own hb, fun m hm => by
    obtain ⟨h1, h2, h3, h4⟩ := h.gr m hm
    exact ⟨(h1.keep fun p hp => hb.cell (by omega)).mono (fun b hb => hb) hb.size, h2, Nat.le_trans h3 hb.size, h4⟩, h.apart⟩
/-- one mutant more -/
theorem Mts.push {l : Nat} {V' : Option Addr} {c' : Nat} {m : Mt} (hl : ms.length = l) (h : Mts base W ms V c) (hg : GrF (fun b => m.lo ≤ b ∧ b < m.hi) W.heap.size W m.g m.A m.cp m.row) (hlo : base ≤ m.lo) (hhi : m.hi ≤ W.heap.size) (hne : ∀ q, (Value.slice V l c).ownBlock = some q → ¬ (m.lo ≤ q ∧ q < m.hi)) (hold : ∀ a ∈ ms, a.hi ≤ m.lo)
    (hown : W'.ownsRow base 24 1 (.slice V' (l + 1) c') (l + 1) (ms.map Mt.val ++ [m.val])) (hgr : W.grownBy W' (Value.slice V l c).ownBlock) (hat : (Value.slice V' (l + 1) c').ownBlock = (Value.slice V l c).ownBlock ∨ (Value.slice V' (l + 1) c').ownBlock = some W.heap.size) :
    Mts base W' (ms ++ [m]) V' c' := by
  subst hl
  have hl' : (ms ++ [m]).length = ms.length + 1 := by simp
  have hx : ∀ a : Mt, a.hi ≤ W.heap.size → (∀ q, (Value.slice V ms.length c).ownBlock = some q → ¬ (a.lo ≤ q ∧ q < a.hi)) → ∀ q, (Value.slice V' (ms.length + 1) c').ownBlock = some q → ¬ (a.lo ≤ q ∧ q < a.hi) := fun a h1 h2 q hq => by
    rcases hat with h3 | h3
    · rw [h3] at hq; exact h2 q hq
    · rw [h3] at hq; injection hq with hq; omega
  have hk : ∀ a : Mt, a.hi ≤ W.heap.size → (∀ q, (Value.slice V ms.length c).ownBlock = some q → ¬ (a.lo ≤ q ∧ q < a.hi)) → GrF (fun b => a.lo ≤ b ∧ b < a.hi) W.heap.size W a.g a.A a.cp a.row → GrF (fun b => a.lo ≤ b ∧ b < a.hi) W'.heap.size W' a.g a.A a.cp a.row := fun a h1 h2 h3 =>
    (h3.keep (W' := W') fun p hp => World.cell?_of_block (hgr.block p.block (by omega) fun e => h2 _ e.symm hp)).mono (fun b hb => hb) hgr.size
  refine ⟨by rw [hl', List.map_append]; exact hown, fun a ha => ?_, ?_⟩
  · rw [hl']
    rcases List.mem_append.1 ha with ha | ha
    · obtain ⟨h1, h2, h3, h4⟩ := h.gr a ha
      exact ⟨hk a h3 h4 h1, h2, Nat.le_trans h3 hgr.size, hx a h3 h4⟩
    · rw [List.mem_singleton.1 ha]
      exact ⟨hk m hhi hne hg, hlo, Nat.le_trans hhi hgr.size, hx m hhi hne⟩
  · rw [List.pairwise_append]
    exact ⟨h.apart, List.pairwise_singleton _ _, fun a ha b hb => by rw [List.mem_singleton.1 hb]; exact hold a ha⟩
end
/-- what mutate.Mutants answers -/
def MutQ (g : List Rl) (w : World) (e : Ending) (w' : World) : Prop := Below w.heap.size w w' ∧
  (((wellG g).2 ≠ 0 ∧ e = .returned (.tuple #[.slice none 0 0, .int .i64 (wellG g).2])) ∨
   ((wellG g).2 = 0 ∧ ∃ ms V c, e = .returned (.tuple #[.slice V ms.length c, .int .i64 0]) ∧ ms.map Mt.g = mutG g ∧ Mts w.heap.size w' ms V c))
/-- at work: the grammar's box, the mutants so far -/
structure MuS (w : World) (gv : Value) (G : List (List Rl)) (l : Nat) (V : Option Addr) (c : Nat) (W : World) : Prop where
  bel : Below w.heap.size w W
  gx : Blk W w.heap.size 24 #[gv]
  mts : ∃ ms : List Mt, ms.map Mt.g = G ∧ ms.length = l ∧ Mts (w.heap.size + 1) W ms V c
theorem MuS.below {w W W' : World} {gv : Value} {G : List (List Rl)} {l : Nat} {V : Option Addr} {c : Nat} (h : MuS w gv G l V c W) (hb : Below W.heap.size W W') : MuS w gv G l V c W' := by
  obtain ⟨ms, h1, h2, h3⟩ := h.mts
  exact ⟨h.bel.trans (hb.mono h.bel.size), h.gx.below hb h.gx.lt, ms, h1, h2, h3.below hb⟩
/-- a mutant while it is made -/
structure MuI (G : List Rl) (nb : Nat) (wL : World) (V : Option Addr) (c : Nat) (rows : Nat → List Value) (j : Nat) (W : World) : Prop where
  bel : Below wL.heap.size wL W
  nlo : wL.heap.size ≤ nb
  out : Blk W nb 24 #[.slice V j c]
  rus : Rus (nb + 1) W (G.take j) V c rows
section
variable {G : List Rl} {nb : Nat} {wL : World} {V : Option Addr} {c : Nat} {rows : Nat → List Value} {j : Nat} {W W' : World}
theorem MuI.below (h : MuI G nb wL V c rows j W) (hb : Below W.heap.size W W') : MuI G nb wL V c rows j W' := ⟨h.bel.trans (hb.mono h.bel.size), h.nlo, h.out.below hb h.out.lt, h.rus.below hb⟩
theorem MuI.push {V' : Option Addr} {c' lo : Nat} {r : Rl} {rc : List Value} (h : MuI G nb wL V c rows j W) (he : G[j]? = some r) (hlo : nb + 1 ≤ lo) (hold : ∀ q, (Value.slice V j c).ownBlock = some q → q < lo) (hn : r.1.size ≤ maxLen) (hE : ExF (fun b => lo ≤ b ∧ b < W.heap.size) W.heap.size W r.2 rc)
    (hown : W'.ownsRow (nb + 1) 44 8 (.slice V' (j + 1) c') (j + 1) (ruF (G.take j) rows 0 ++ (.string r.1 :: rc))) (hg : W.grownBy W' (Value.slice V j c).ownBlock)
    (hat : (Value.slice V' (j + 1) c').ownBlock = (Value.slice V j c).ownBlock ∨ (Value.slice V' (j + 1) c').ownBlock = some W.heap.size) :
    MuI G nb wL V' c' (fun i => if i = j then rc else rows i) (j + 1) (W'.setCell ⟨nb, 0, none⟩ (.slice V' (j + 1) c')) := by
  have hjl := getElem?_lt he
  have hnl := h.nlo
  have hl : (G.take j).length = j := by simp; omega
  have hne : ∀ b, b < nb + 1 → some b ≠ (Value.slice V j c).ownBlock := fun b hb e => by
    have := h.rus.own.lt b (by rw [hl]; exact e.symm)
    omega
  have hlow : Below wL.heap.size W W' := ⟨hg.os, hg.tape, hg.output, hg.size, fun q hq => hg.block q (by have := h.bel.size; omega) (hne q (by omega))⟩
  have hk := h.rus.push (V' := V') (c' := c') (lo := lo) (r := r) hlo (by rw [hl]; exact hold) hn hE (by rw [hl]; exact hown) (by rw [hl]; exact hg) (by rw [hl]; exact hat)
  rw [hl] at hk
  refine ⟨(h.bel.trans hlow).setCell (by simp; omega) _, hnl, ((h.out.grown hg (hne _ (by omega))).set_ 0 _), ?_⟩
  rw [take_succ_of he]
  exact hk.far (by omega) _ _
end
end Go.Proofs.Ytefechceoeeonaa

/- An expression that was made anew: each row of kids lies in a block of its own, known whole, whatever its capacity. Written by genca.py out of RoC. -/
namespace Go.Proofs.Ytefechceoeeonaa
open Go.RowKit Go.Maps

/-- an expression that rests on blocks from lo on to hi: the row of its kids and those of its kids, each in a block of its own that may be written -/
inductive CaE (W : World) : Nat → Nat → Ex → List Value → Prop
  | mk (lo hi : Nat) (k a b c d : Int) (t : ByteArray) (ks : List Ex) (A : Option Addr) (cp : Nat) (rows : Nat → List Value) (L H : Nat → Nat) :
      t.size ≤ maxLen → ks.length ≤ cp → cp ≤ maxLen → (A = none → cp = 0) →
      (∀ ad, A = some ad → ∃ bk cs, ad = ⟨bk, 0, none⟩ ∧ lo ≤ bk ∧ bk < hi ∧ Blk W bk 38 cs ∧ cs.size = cp * 7 ∧ cs.toList.take (ks.length * 7) = kdF rows ks.length ∧ ∀ i, i < ks.length → bk < L i ∨ H i ≤ bk) →
      (∀ i e, ks[i]? = some e → CaE W (L i) (H i) e (rows i)) → (∀ i, i < ks.length → lo ≤ L i ∧ H i ≤ hi) → (∀ i j, i < j → j < ks.length → H i ≤ L j) →
      CaE W lo hi (.mk k a b c d t ks) (exCells k a b c d t A ks.length cp)
section
variable {W W' : World} {lo hi lo' hi' B : Nat} {e : Ex} {cs : List Value}
theorem CaE.keep (h : CaE W lo hi e cs) : (∀ b, lo ≤ b → b < hi → W'.heap[b]? = W.heap[b]?) → CaE W' lo hi e cs := by
  induction h with
  | mk lo hi k a b c d t ks A cp rows L H ht hn hm h0 hb hk hL hO ih =>
    intro hK
    refine .mk lo hi k a b c d t ks A cp rows L H ht hn hm h0 (fun ad hA => ?_) (fun i e he => ih i e he fun q q1 q2 => by
      have := hL i (getElem?_lt he)
      exact hK q (by omega) (by omega)) hL hO
    obtain ⟨bk, cs, h1, h2, h3, h4, h5⟩ := hb ad hA
    exact ⟨bk, cs, h1, h2, h3, (hK bk h2 h3).trans h4, h5⟩
theorem CaE.mono (h : CaE W lo hi e cs) (h1 : lo' ≤ lo) (h2 : hi ≤ hi') : CaE W lo' hi' e cs := by
  cases h with
  | mk _ _ k a b c d t ks A cp rows L H ht hn hm h0 hb hk hL hO =>
    refine .mk lo' hi' k a b c d t ks A cp rows L H ht hn hm h0 (fun ad hA => ?_) hk (fun i hi => by have := hL i hi; omega) hO
    obtain ⟨bk, cs, e1, e2, e3, e4⟩ := hb ad hA
    exact ⟨bk, cs, e1, by omega, by omega, e4⟩
theorem CaE.len7 (h : CaE W lo hi e cs) : cs.length = 7 := by
  cases h
  rfl
theorem CaE.at (h : CaE W lo hi e cs) : ∀ X : World, (∀ p : Addr, lo ≤ p.block → p.block < hi → X.cell? p = W.cell? p) → hi ≤ B → ExIs X B e cs := by
  induction h with
  | mk lo hi k a b c d t ks A cp rows L H ht hn hm h0 hb hk hL hO ih =>
    intro X hX hB
    refine .mk k a b c d t ks _ _ rows ht hn hm h0 (fun h => ?_) (fun i e he => ih i e he X (fun p p1 p2 => hX p (by have := hL i (getElem?_lt he); omega) (by have := hL i (getElem?_lt he); omega)) (by have := hL i (getElem?_lt he); omega)) ?_
    · cases A with
      | none => have := h0 rfl; omega
      | some ad =>
        obtain ⟨bk, cs, rfl, h2, h3, _⟩ := hb ad rfl
        exact ⟨_, rfl, by show bk < B; omega⟩
    · intro i e ad he hA j u hu
      obtain ⟨bk, cs, rfl, h2, h3, h4, h5, h6, _⟩ := hb ad hA
      have h7 : ∀ q, q < ks.length → (rows q).length = 7 := fun q hq => (hk q _ (List.getElem?_eq_getElem hq)).len7
      have := kdF_get h7 (getElem?_lt he) hu
      have hlt := getElem?_lt this
      rw [kdF_len h7] at hlt
      rw [add_add', cell_add, hX _ h2 h3, h4.cell, ← Array.getElem?_toList, ← List.getElem?_take_of_lt hlt, h6]
      exact this
theorem CaE.is (h : CaE W lo hi e cs) (hB : hi ≤ B) : ExIs W B e cs := h.at W (fun _ _ _ => rfl) hB
theorem CaE.exf (h : CaE W lo hi e cs) : ExF (fun b => lo ≤ b ∧ b < hi) hi W e cs := fun X hX => h.at X (fun p h1 h2 => hX p ⟨h1, h2⟩) (Nat.le_refl _)
theorem caE_parts (h : CaE W lo hi e cs) : ∃ k a b c d t A n cp, cs = [.int .i64 k, .int .u64 a, .int .u64 b, .int .u64 c, .int .u64 d, .string t, .slice A n cp] := e.parts (h.is (Nat.le_refl _))
theorem CaE.res7 {B k : Nat} (h : CaE W lo W.heap.size e cs) (hk : k < lo) (hB : B ≤ lo) (u0 u1 u2 u3 u4 u5 u6 : Value) : CaE (((((((W.setCell ⟨k, 0, none⟩ u0).setCell ⟨k, 1, none⟩ u1).setCell ⟨k, 2, none⟩ u2).setCell ⟨k, 3, none⟩ u3).setCell ⟨k, 4, none⟩ u4).setCell ⟨k, 5, none⟩ u5).setCell ⟨k, 6, none⟩ u6) B
    (((((((W.setCell ⟨k, 0, none⟩ u0).setCell ⟨k, 1, none⟩ u1).setCell ⟨k, 2, none⟩ u2).setCell ⟨k, 3, none⟩ u3).setCell ⟨k, 4, none⟩ u4).setCell ⟨k, 5, none⟩ u5).setCell ⟨k, 6, none⟩ u6).heap.size e cs := by
  rw [size_set7]
  refine (h.keep fun q q1 _ => ?_).mono hB (Nat.le_refl _)
  have hne : q ≠ k := by omega
  exact (Below.heap_setCell _ ⟨k, 6, none⟩ u6 q hne).trans ((Below.heap_setCell _ ⟨k, 5, none⟩ u5 q hne).trans ((Below.heap_setCell _ ⟨k, 4, none⟩ u4 q hne).trans ((Below.heap_setCell _ ⟨k, 3, none⟩ u3 q hne).trans ((Below.heap_setCell _ ⟨k, 2, none⟩ u2 q hne).trans ((Below.heap_setCell _ ⟨k, 1, none⟩ u1 q hne).trans (Below.heap_setCell _ ⟨k, 0, none⟩ u0 q hne))))))
end

/-- kids with room, in a row of one's own -/
structure CKids (base : Nat) (W : World) (es : List Ex) (V : Option Addr) (c : Nat) (rows : Nat → List Value) (L H : Nat → Nat) : Prop where
  own : W.ownsRow base 38 7 (.slice V es.length c) es.length (kdF rows es.length)
  kid : ∀ i e, es[i]? = some e → CaE W (L i) (H i) e (rows i)
  le : ∀ i, i < es.length → base ≤ L i ∧ H i ≤ W.heap.size
  ord : ∀ i j, i < j → j < es.length → H i ≤ L j
  apart : ∀ i q, i < es.length → (Value.slice V es.length c).ownBlock = some q → q < L i ∨ H i ≤ q
section
variable {base : Nat} {W W' : World} {es : List Ex} {V : Option Addr} {c : Nat} {rows : Nat → List Value} {L H : Nat → Nat}
theorem CKids.nil (base : Nat) (W : World) : CKids base W [] none 0 (fun _ => []) (fun _ => 0) (fun _ => 0) :=
  ⟨World.ownsRow_nil _ _ _ _, fun i e h => by simp at h, fun i h => by simp at h, fun i j _ h => by simp at h, fun i q h => by simp at h⟩
theorem CKids.below (h : CKids base W es V c rows L H) (hb : Below W.heap.size W W') : CKids base W' es V c rows L H :=
  ⟨own_below h.own hb, fun i e he => (h.kid i e he).keep fun q _ q2 => hb.block q (by have := h.le i (getElem?_lt he); omega), fun i hi => by have := h.le i hi; have := hb.size; omega, h.ord, h.apart⟩
theorem CKids.far (h : CKids base W es V c rows L H) {k : Nat} (hk : k < base) (i : Nat) (u : Value) : CKids base (W.setCell ⟨k, i, none⟩ u) es V c rows L H :=
  ⟨own_far h.own ⟨rfl, rfl, rfl, by simp [World.setCell], fun q hq hne => Below.heap_setCell W ⟨k, i, none⟩ u q (by rintro rfl; exact hne rfl)⟩ hk,
    fun j e he => (h.kid j e he).keep fun q q1 _ => Below.heap_setCell W ⟨k, i, none⟩ u q (by have := h.le j (getElem?_lt he); show q ≠ k; omega),
    fun i hi => by simpa [World.setCell] using h.le i hi, h.ord, h.apart⟩
theorem CKids.len7 (h : CKids base W es V c rows L H) : ∀ i, i < es.length → (rows i).length = 7 := fun i hi => (h.kid i _ (List.getElem?_eq_getElem hi)).len7
theorem CKids.old (h : CKids base W es V c rows L H) : ∀ q, (Value.slice V es.length c).ownBlock = some q → q < W.heap.size := fun q hq => (h.own.lt q hq).2
theorem CKids.one (h : CKids base W es V c rows L H) : ∀ u ∈ kdF rows es.length, u.oneCell' = true := by
  have hall : ∀ n, n ≤ es.length → ∀ u ∈ kdF rows n, u.oneCell' = true := by
    intro n
    induction n with
    | zero => intro _ u hu; simp [kdF] at hu
    | succ n ih =>
      intro hn u hu
      rw [kdF, List.mem_append] at hu
      rcases hu with hu | hu
      · exact ih (by omega) u hu
      · exact ex_one' ((h.kid n _ (List.getElem?_eq_getElem hn)).is (Nat.le_refl _)) u hu
  exact hall _ (Nat.le_refl _)
theorem CKids.reads (h : CKids base W es V c rows L H) : Reads W W.heap.size 7 V es.length (kdF rows es.length) ∧ (V = none → c = 0) := by
  have hl := kdF_len h.len7
  have ho := h.own
  have hlt := ho.lt
  rcases ho.2 with ⟨h1, h2⟩ | ⟨g, cap, cur, hv, h3, h4, h5, h6, _⟩
  · injection h1 with e1 e2 e3
    exact ⟨⟨hl, fun h0 => by omega⟩, fun _ => e3⟩
  · injection hv with e1 e2 e3
    subst e1
    exact ⟨⟨hl, fun _ => ⟨_, rfl, (hlt g rfl).2, fun j u hu => ho.cells rfl j u hu⟩⟩, fun h => by cases h⟩
/-- one kid more -/
theorem CKids.push {V' : Option Addr} {c' lo : Nat} {e : Ex} {r : List Value} (h : CKids base W es V c rows L H) (hlo : base ≤ lo) (hold : ∀ q, (Value.slice V es.length c).ownBlock = some q → q < lo) (hprev : ∀ i, i < es.length → H i ≤ lo) (hE : CaE W lo W.heap.size e r)
    (hown : W'.ownsRow base 38 7 (.slice V' (es.length + 1) c') (es.length + 1) (kdF rows es.length ++ r)) (hg : W.grownBy W' (Value.slice V es.length c).ownBlock)
    (hat : (Value.slice V' (es.length + 1) c').ownBlock = (Value.slice V es.length c).ownBlock ∨ (Value.slice V' (es.length + 1) c').ownBlock = some W.heap.size) :
    CKids base W' (es ++ [e]) V' c' (fun i => if i = es.length then r else rows i) (fun i => if i = es.length then lo else L i) (fun i => if i = es.length then W.heap.size else H i) := by
  have hl : (es ++ [e]).length = es.length + 1 := by simp
  have hz := hg.size
  constructor
  · rw [hl, kdF, if_pos rfl, kdF_same (rows' := rows) fun i hi => if_neg (by omega)]
    exact hown
  · intro i x hx
    by_cases hi : i < es.length
    · rw [List.getElem?_append_left hi] at hx
      have hle := h.le i hi
      have hap := h.apart i
      simp only [if_neg (show ¬ i = es.length by omega)]
      exact (h.kid i x hx).keep fun q q1 q2 => hg.block q (by omega) fun e => by have := hap q hi e.symm; omega
    · have hi' : i = es.length := by have := getElem?_lt hx; simp at this; omega
      subst hi'
      simp at hx
      subst hx
      simp only [if_true]
      exact hE.keep fun q q1 q2 => hg.block q q2 fun e => by have := hold q e.symm; omega
  · intro i hi
    rw [hl] at hi
    by_cases hi' : i = es.length
    · simp only [if_pos hi']; omega
    · have := h.le i (by omega)
      simp only [if_neg hi']; omega
  · intro i j hij hj
    rw [hl] at hj
    by_cases hj' : j = es.length
    · simp only [if_pos hj', if_neg (show ¬ i = es.length by omega)]
      exact hprev i (by omega)
    · simp only [if_neg hj', if_neg (show ¬ i = es.length by omega)]
      exact h.ord i j hij (by omega)
  · intro i q hi hq
    rw [hl] at hi hq
    by_cases hi' : i = es.length
    · simp only [if_pos hi']
      rcases hat with h1 | h1
      · rw [h1] at hq
        exact .inl (hold q hq)
      · rw [h1] at hq
        injection hq with hq
        exact .inr (by omega)
    · simp only [if_neg hi']
      rcases hat with h1 | h1
      · rw [h1] at hq
        exact h.apart i q (by omega) hq
      · rw [h1] at hq
        injection hq with hq
        have := h.le i (by omega)
        exact .inr (by omega)
/-- the node of these kids -/
theorem CKids.node (h : CKids base W es V c rows L H) (k a b c' d : Int) (t : ByteArray) (ht : t.size ≤ maxLen) : CaE W base W.heap.size (.mk k a b c' d t es) (exCells k a b c' d t V es.length c) := by
  have hap := h.apart
  have hlt := h.own.lt
  rcases h.own.2 with ⟨h1, h2⟩ | ⟨g1, cap, cur, hv, h3, h4, h5, h6, h7, h8⟩
  · injection h1 with e1 e2 e3
    subst e1 e3
    exact .mk base _ k a b c' d t es none 0 rows L H ht (by omega) (by unfold maxLen; omega) (fun _ => rfl) (fun ad hA => by cases hA) h.kid h.le h.ord
  · injection hv with e1 e2 e3
    subst e1 e3
    refine .mk base _ k a b c' d t es _ _ rows L H ht h5 h6 (fun h => by cases h) (fun ad hA => ?_) h.kid h.le h.ord
    injection hA with hA
    subst hA
    exact ⟨g1, cur, rfl, (hlt g1 rfl).1, (hlt g1 rfl).2, h4, h7, h8, fun i hi => hap i g1 hi rfl⟩
end
def CaQ (f : Ex) (w : World) (r : Ending) (w' : World) : Prop := (∃ cs, r = .returned (.agg cs.toArray) ∧ CaE w' w.heap.size w'.heap.size f cs) ∧ Below w.heap.size w w'
/-- while kids are made -/
structure CpC (k a b c d : Int) (t : ByteArray) (ks : List Ex) (A : Option Addr) (cp : Nat) (w : World) (V : Option Addr) (cv : Nat) (rows : Nat → List Value) (L H : Nat → Nat) (j : Nat) (W : World) : Prop where
  bel : Below w.heap.size w W
  box : Blk W w.heap.size 38 #[.int .i64 k, .int .u64 a, .int .u64 b, .int .u64 c, .int .u64 d, .string t, .slice A ks.length cp]
  res : Blk W (w.heap.size + 1) 38 #[.int .i64 0, .int .u64 0, .int .u64 0, .int .u64 0, .int .u64 0, .string ⟨#[]⟩, .slice none 0 0]
  out : Blk W (w.heap.size + 1 + 1) 38 #[.int .i64 k, .int .u64 a, .int .u64 b, .int .u64 c, .int .u64 d, .string t, .slice V j cv]
  kids : CKids (w.heap.size + 3) W (ks.take j) V cv rows L H
section
variable {k a b c d : Int} {t : ByteArray} {ks : List Ex} {A : Option Addr} {cp : Nat} {w : World} {V : Option Addr} {cv : Nat} {rows : Nat → List Value} {L H : Nat → Nat} {j : Nat} {W W' : World}
theorem CpC.below (h : CpC k a b c d t ks A cp w V cv rows L H j W) (hb : Below W.heap.size W W') : CpC k a b c d t ks A cp w V cv rows L H j W' :=
  ⟨h.bel.trans (hb.mono h.bel.size), h.box.below hb h.box.lt, h.res.below hb h.res.lt, h.out.below hb h.out.lt, h.kids.below hb⟩
theorem CpC.push {V' : Option Addr} {c' lo : Nat} {e : Ex} {r : List Value} (h : CpC k a b c d t ks A cp w V cv rows L H j W) (he : ks[j]? = some e) (hlo : w.heap.size + 3 ≤ lo) (hold : ∀ q, (Value.slice V j cv).ownBlock = some q → q < lo) (hprev : ∀ i, i < j → H i ≤ lo) (hE : CaE W lo W.heap.size e r)
    (hown : W'.ownsRow (w.heap.size + 3) 38 7 (.slice V' (j + 1) c') (j + 1) (kdF rows j ++ r)) (hg : W.grownBy W' (Value.slice V j cv).ownBlock)
    (hat : (Value.slice V' (j + 1) c').ownBlock = (Value.slice V j cv).ownBlock ∨ (Value.slice V' (j + 1) c').ownBlock = some W.heap.size) :
    CpC k a b c d t ks A cp w V' c' (fun i => if i = j then r else rows i) (fun i => if i = j then lo else L i) (fun i => if i = j then W.heap.size else H i) (j + 1) (W'.setCell ⟨w.heap.size + 1 + 1, 6, none⟩ (.slice V' (j + 1) c')) := by
  have hjl := getElem?_lt he
  have hl : (ks.take j).length = j := by simp; omega
  have hne : ∀ b, b < w.heap.size + 3 → some b ≠ (Value.slice V j cv).ownBlock := fun b hb e => by
    have := h.kids.own.lt b (by rw [hl]; exact e.symm)
    omega
  have hlow : Below w.heap.size W W' := ⟨hg.os, hg.tape, hg.output, hg.size, fun q hq => hg.block q (by have := h.bel.size; omega) (hne q (by omega))⟩
  have hk := h.kids.push (V' := V') (c' := c') (lo := lo) (e := e) (r := r) hlo (by rw [hl]; exact hold) (by rw [hl]; exact hprev) hE (by rw [hl]; exact hown) (by rw [hl]; exact hg) (by rw [hl]; exact hat)
  rw [hl] at hk
  refine ⟨(h.bel.trans hlow).setCell (by simp; omega) _, ((h.box.grown hg (hne _ (by omega))).far (by simp; omega) _), ((h.res.grown hg (hne _ (by omega))).far (by simp) _), ((h.out.grown hg (hne _ (by omega))).set_ 6 _), ?_⟩
  rw [take_succ_of he]
  exact hk.far (by omega) _ _
end
end Go.Proofs.Ytefechceoeeonaa

/- expr.Copy: what it makes may be spoilt. -/
namespace Go.Proofs.Ytefechceoeeonaa
open Go.RowKit Go.Maps

set_option maxRecDepth 100000 in
set_option maxHeartbeats 8000000 in
theorem copyc_any (e : Ex) : K8 e → ∀ (cs : List Value) (w : World), ExIs w w.heap.size e cs → Calls Try.prog 50 #[.agg cs.toArray] w (CaQ e w) := by
  refine Ex.ind (P := fun e => K8 e → ∀ (cs : List Value) (w : World), ExIs w w.heap.size e cs → Calls Try.prog 50 #[.agg cs.toArray] w (CaQ e w)) ?_ e
  intro k a b c d t ks ih h8 cs w hE
  cases h8 with
  | mk _ _ _ _ _ _ _ hk8 h8k =>
  obtain ⟨htl, A, cp, rfl, hkc, hcm, hnil⟩ := hE.shape
  obtain ⟨i0, hi0, hz0, hz1, hz2⟩ := info_parts expr_info
  have hcall : ∀ (j : Nat) (k' a' b' c' d' : Int) (t' : ByteArray) (ks' : List Ex) (A' : Option Addr) (cp' : Nat) (W : World), Below w.heap.size w W → ks[j]? = some (.mk k' a' b' c' d' t' ks') → ExIs w w.heap.size (.mk k' a' b' c' d' t' ks') (exCells k' a' b' c' d' t' A' ks'.length cp') →
      Calls Try.prog 50 #[.agg #[.int .i64 k', .int .u64 a', .int .u64 b', .int .u64 c', .int .u64 d', .string t', .slice A' ks'.length cp']] W (CaQ (.mk k' a' b' c' d' t' ks') W) := fun j k' a' b' c' d' t' ks' A' cp' W hW hej hx =>
    ih _ (List.mem_of_getElem? hej) (h8k _ (List.mem_of_getElem? hej)) _ W (hx.grow hW)
  have HC := Lib.hid hcall
  have HE := Lib.hid hE
  have HQ : Hid (∀ W' cs', CaE W' w.heap.size W'.heap.size (.mk k a b c d t ks) cs' → Below w.heap.size w W' → CaQ (.mk k a b c d t ks) w (.returned (.agg cs'.toArray)) W') := fun W' cs' h1 h2 => ⟨⟨cs', rfl, h1⟩, h2⟩
  generalize CaQ (.mk k a b c d t ks) w = Q at HQ ⊢
  clear ih h8k hcall hE
  unfold exCells
  unfold maxLen at hcm
  go_enter Try.func50, Try.ntmps50
  go_wp2
  go_loopw [11] (fun i wr => ∃ j : Nat, j ≤ ks.length ∧ i = .int .i64 j ∧ ∃ V cv rows Lo Hi, CpC k a b c d t ks A cp w V cv rows Lo Hi j wr) (fun i _ => ks.length - (intOf i).toNat)
  case atStart =>
    refine ⟨0, by omega, rfl, none, 0, fun _ => [], fun _ => 0, fun _ => 0, (by repeat (first | exact Below.refl _ _ | assumption | refine Below.drew ?_ | refine below_drewN ?_ _ | refine Below.alloc ?_ (by first | omega | (simp; omega) | simp) _ | refine Below.setCell ?_ (by first | omega | (simp; omega) | simp) _)), ((blk_at rfl).alloc _).alloc _, (blk_at (by simp)).alloc _, blk_at (by simp), CKids.nil _ _⟩
  case round =>
    obtain ⟨j, hj, rfl, V, cv, rows, Lo, Hi, hI⟩ := hrel
    have hbw := hI.bel
    have hzw := hbw.size
    by_cases hjn : j < ks.length
    · obtain ⟨ad, k', a', b', c', d', t', ks', A', cp', rfl, hab, hej, hx, hS⟩ := HE.out.kid hjn
      have hk := fun (q : Addr) (hq : q.block = (ad.add (j * 7)).block) => hbw.cell (p := q) (by rw [hq, add_block]; omega)
      have y0 := (hk _ rfl).trans hS.c0
      have y1 := (hk ⟨_, _, none⟩ rfl).trans hS.c1
      have y2 := (hk ⟨_, _, none⟩ rfl).trans hS.c2
      have y3 := (hk ⟨_, _, none⟩ rfl).trans hS.c3
      have y4 := (hk ⟨_, _, none⟩ rfl).trans hS.c4
      have y5 := (hk ⟨_, _, none⟩ rfl).trans hS.c5
      have y6 := (hk ⟨_, _, none⟩ rfl).trans hS.c6
      have had1 : ad.block < wr.heap.size := by omega
      have hjl : (j : Int) < (ks.length : Int) := by omega
      clear hk hS
      have hC0 : KdC (w.heap.size + 1 + 1) wr.heap.size #[.int .i64 k, .int .u64 a, .int .u64 b, .int .u64 c, .int .u64 d, .string t, .slice V j cv] #[.int .i64 k', .int .u64 a', .int .u64 b', .int .u64 c', .int .u64 d', .string t', .slice A' ks'.length cp'] (wr.alloc (.cells #[.int .i64 k', .int .u64 a', .int .u64 b', .int .u64 c', .int .u64 d', .string t', .slice A' ks'.length cp'] 38)) := ⟨hI.out.alloc _, blk_at rfl⟩
      have hI1 := hI.below ((Below.refl _ wr).alloc (Nat.le_refl _) (.cells #[.int .i64 k', .int .u64 a', .int .u64 b', .int .u64 c', .int .u64 d', .string t', .slice A' ks'.length cp'] 38))
      have hold : ∀ q, (Value.slice V j cv).ownBlock = some q → q < wr.heap.size := fun q hq => hI.kids.old q (by simpa [Nat.min_eq_left hj] using hq)
      have hbase : w.heap.size + 3 ≤ wr.heap.size := by have := hI.out.lt; omega
      have HOLD := Lib.hid hold
      have HEJ := Lib.hid hej
      have HX := Lib.hid hx
      clear hej hx hold hI
      go_upto_region 6 with fail
      have hkne : some wr.heap.size ≠ (Value.slice V j cv).ownBlock := fun e => by have := HOLD.out _ e.symm; omega
      have hone : some (w.heap.size + 1 + 1) ≠ (Value.slice V j cv).ownBlock := fun e => by have h1 := hI1.kids.own.lt (w.heap.size + 1 + 1) (by simpa [Nat.min_eq_left hj] using e.symm); omega
      have hbase1 : w.heap.size + 3 ≤ (wr.alloc (.cells #[.int .i64 k', .int .u64 a', .int .u64 b', .int .u64 c', .int .u64 d', .string t', .slice A' ks'.length cp'] 38)).heap.size := by simp; omega
      have hold1 : ∀ q, (Value.slice V j cv).ownBlock = some q → q < (wr.alloc (.cells #[.int .i64 k', .int .u64 a', .int .u64 b', .int .u64 c', .int .u64 d', .string t', .slice A' ks'.length cp'] 38)).heap.size := fun q hq => by have := HOLD.out q hq; simp; omega
      have hprev1 : ∀ i, i < j → Hi i ≤ (wr.alloc (.cells #[.int .i64 k', .int .u64 a', .int .u64 b', .int .u64 c', .int .u64 d', .string t', .slice A' ks'.length cp'] 38)).heap.size := fun i hi => (hI1.kids.le i (by simp; omega)).2
      generalize (wr.alloc (.cells #[.int .i64 k', .int .u64 a', .int .u64 b', .int .u64 c', .int .u64 d', .string t', .slice A' ks'.length cp'] 38)) = w11 at hC0 hI1 hbase1 hold1 hprev1 ⊢
      generalize wr.heap.size = kb at hC0 hkne ⊢
      clear y0 y1 y2 y3 y4 y5 y6 had1 hbw
      refine wp_region_l (KdC (w.heap.size + 1 + 1) kb #[.int .i64 k, .int .u64 a, .int .u64 b, .int .u64 c, .int .u64 d, .string t, .slice V j cv] #[.int .i64 k', .int .u64 a', .int .u64 b', .int .u64 c', .int .u64 d', .string t', .slice A' ks'.length cp']) (· == 7) (by kernel_rfl) ?_
      have hC := hC0.below (Below.refl _ _).drew
      have hI := hI1.below (Below.refl _ _).drew
      have hbd : (w11.drew).heap.size = w11.heap.size := rfl
      rw [← hbd] at hbase1 hold1 hprev1
      generalize w11.drew = wd at hC hI hbase1 hold1 hprev1 ⊢
      clear hC0 hI1 hbd
      apply L.rd (i := 0) rfl (by kernel_rfl) hC rfl
      · intro W hW
        skip
        unfold readW
        go_simp
        first | rfl | exact ⟨rfl, rfl⟩
      first | simp only [Act.put, List.setIfInBounds_toArray, List.set_cons_succ, List.set_cons_zero] | skip
      apply L.rd (i := 1) rfl (by kernel_rfl) hC rfl
      · intro W hW
        have n0 := hW.out.cell 6
        unfold readW
        go_simp
        first | rfl | exact ⟨rfl, rfl⟩
      first | simp only [Act.put, List.setIfInBounds_toArray, List.set_cons_succ, List.set_cons_zero] | skip
      apply L.rd (i := 2) rfl (by kernel_rfl) hC rfl
      · intro W hW
        have r0 := hW.kid.cell 0; have r1 := hW.kid.cell 1; have r2 := hW.kid.cell 2; have r3 := hW.kid.cell 3; have r4 := hW.kid.cell 4; have r5 := hW.kid.cell 5; have r6 := hW.kid.cell 6
        unfold readW
        go_simp
        first | rfl | exact ⟨rfl, rfl⟩
      first | simp only [Act.put, List.setIfInBounds_toArray, List.set_cons_succ, List.set_cons_zero] | skip
      apply L.one (i := 3) rfl (by kernel_rfl) rfl
      unfold stepT
      go_simp
      go_at_call 50
      refine (HC.out _ _ _ _ _ _ _ _ _ _ _ hI.bel HEJ.out HX.out).mono ?_
      rintro e wn ⟨⟨rc, rfl, hF⟩, hbn⟩
      have hC := hC.below hbn
      have hI := hI.below hbn
      have hbase2 := Nat.le_trans hbase1 hbn.size
      clear hbn
      have hrc := ex_one' (hF.is (Nat.le_refl _))
      obtain ⟨k1, a1, b1, c1, d1, t1, A1, n1, cp1, rfl⟩ := Ex.parts _ (hF.is (Nat.le_refl _))
      refine ⟨_, rfl, hC, ?_⟩
      first | simp only [Act.put, List.setIfInBounds_toArray, List.set_cons_succ, List.set_cons_zero] | skip
      apply L.one (i := 4) rfl (by kernel_rfl) rfl
      unfold stepT
      go_simp
      have hF1 : CaE (wn.alloc (.cells #[.int .i64 k1, .int .u64 a1, .int .u64 b1, .int .u64 c1, .int .u64 d1, .string t1, .slice A1 n1 cp1] 38)) wd.heap.size (wn.alloc (.cells #[.int .i64 k1, .int .u64 a1, .int .u64 b1, .int .u64 c1, .int .u64 d1, .string t1, .slice A1 n1 cp1] 38)).heap.size _ _ := (hF.keep (W' := wn.alloc (.cells #[.int .i64 k1, .int .u64 a1, .int .u64 b1, .int .u64 c1, .int .u64 d1, .string t1, .slice A1 n1 cp1] 38)) fun q _ hq => Below.heap_alloc wn _ q hq).mono (Nat.le_refl _) (by simp)
      have hkb : Blk (wn.alloc (.cells #[.int .i64 k1, .int .u64 a1, .int .u64 b1, .int .u64 c1, .int .u64 d1, .string t1, .slice A1 n1 cp1] 38)) wn.heap.size 38 #[.int .i64 k1, .int .u64 a1, .int .u64 b1, .int .u64 c1, .int .u64 d1, .string t1, .slice A1 n1 cp1] := blk_at rfl
      have hC := hC.below ((Below.refl _ _).alloc (Nat.le_refl _) (.cells #[.int .i64 k1, .int .u64 a1, .int .u64 b1, .int .u64 c1, .int .u64 d1, .string t1, .slice A1 n1 cp1] 38))
      have hI := hI.below ((Below.refl _ _).alloc (Nat.le_refl _) (.cells #[.int .i64 k1, .int .u64 a1, .int .u64 b1, .int .u64 c1, .int .u64 d1, .string t1, .slice A1 n1 cp1] 38))
      have hbase3 : w.heap.size + 3 ≤ (wn.alloc (.cells #[.int .i64 k1, .int .u64 a1, .int .u64 b1, .int .u64 c1, .int .u64 d1, .string t1, .slice A1 n1 cp1] 38)).heap.size := by simp; omega
      generalize (wn.alloc (.cells #[.int .i64 k1, .int .u64 a1, .int .u64 b1, .int .u64 c1, .int .u64 d1, .string t1, .slice A1 n1 cp1] 38)) = wk at hC hI hkb hF1 hbase3 ⊢
      generalize wn.heap.size = nb at hkb ⊢
      clear hF hbase2
      refine ⟨hC, ?_⟩
      apply L.one (i := 5) rfl (by kernel_rfl) rfl
      refine stepT_append_at (.tmp 16) (.tmp 19) 36 rfl (w.heap.size + 3) 38 i0 _ 7 80 Try.underlying36 hi0 hz0 hz1 hz2 rfl (by decide) (.slice V j cv) j (kdF rows j) (by simp [Act.eval]) (by simpa [Nat.min_eq_left hj] using hI.kids.own) ⟨nb, 0, none⟩ 1 1 [.int .i64 k1, .int .u64 a1, .int .u64 b1, .int .u64 c1, .int .u64 d1, .string t1, .slice A1 n1 cp1] (by simp [Act.eval]) rfl (fun i u hu => by rw [cell_add]; exact (hkb.cell i).trans (by rw [List.getElem?_toArray]; exact hu)) hrc (by unfold maxLen; omega) (by omega) hbase3 ?_
      intro v' w3 hown hgr hat
      obtain ⟨V3, c3, rfl⟩ := own_form hown
      have hI3 := hI.push HEJ.out hbase1 hold1 hprev1 hF1 hown hgr hat
      have hC := hC.grown hgr hone hkne
      refine ⟨fun _ => hC, ?_⟩
      first | simp only [Act.put, List.setIfInBounds_toArray, List.set_cons_succ, List.set_cons_zero] | skip
      apply L.rd (i := 6) rfl (by kernel_rfl) hC rfl
      · intro W hW
        skip
        unfold readW
        go_simp
        first | rfl | exact ⟨rfl, rfl⟩
      first | simp only [Act.put, List.setIfInBounds_toArray, List.set_cons_succ, List.set_cons_zero] | skip
      have n0 := hC.out.cell 6
      have f0 := hC.out.frozen 6
      apply L.one (i := 7) rfl (by kernel_rfl) rfl
      unfold stepT
      go_simp
      refine L.done (by kernel_rfl) ?_
      have HI3 := Lib.hid hI3
      clear hI hI3 hC hown hgr hkb n0 f0 hat hF1 hold1 hprev1 hbase1 hbase3 hkne hone
      go_wp2
      go_roundw
      case rel => exact ⟨j + 1, by omega, by go_num, _, _, _, _, _, HI3.out⟩
      case measure => simp [intOf]; omega
    · obtain rfl : j = ks.length := by omega
      have hK := hI.kids.node k a b c d t htl
      rw [List.take_length] at hK
      have ho := hI.out
      have x0 : wr.cell? ⟨w.heap.size + 1 + 1, 0, none⟩ = some (.int .i64 k) := ho.cell 0; have x1 : wr.cell? ⟨w.heap.size + 1 + 1, 1, none⟩ = some (.int .u64 a) := ho.cell 1; have x2 : wr.cell? ⟨w.heap.size + 1 + 1, 2, none⟩ = some (.int .u64 b) := ho.cell 2; have x3 : wr.cell? ⟨w.heap.size + 1 + 1, 3, none⟩ = some (.int .u64 c) := ho.cell 3; have x4 : wr.cell? ⟨w.heap.size + 1 + 1, 4, none⟩ = some (.int .u64 d) := ho.cell 4; have x5 : wr.cell? ⟨w.heap.size + 1 + 1, 5, none⟩ = some (.string t) := ho.cell 5; have x6 : wr.cell? ⟨w.heap.size + 1 + 1, 6, none⟩ = some (.slice V ks.length cv) := ho.cell 6
      have hrs := hI.res
      have hwz := hI.out.lt
      have HK := Lib.hid hK
      clear hI hK ho
      have yz0 : wr.cell? ⟨w.heap.size + 1, 0, none⟩ = some (.int .i64 0) := hrs.cell 0; have yz1 : wr.cell? ⟨w.heap.size + 1, 1, none⟩ = some (.int .u64 0) := hrs.cell 1; have yz2 : wr.cell? ⟨w.heap.size + 1, 2, none⟩ = some (.int .u64 0) := hrs.cell 2; have yz3 : wr.cell? ⟨w.heap.size + 1, 3, none⟩ = some (.int .u64 0) := hrs.cell 3; have yz4 : wr.cell? ⟨w.heap.size + 1, 4, none⟩ = some (.int .u64 0) := hrs.cell 4; have yz5 : wr.cell? ⟨w.heap.size + 1, 5, none⟩ = some (.string ⟨#[]⟩) := hrs.cell 5; have yz6 : wr.cell? ⟨w.heap.size + 1, 6, none⟩ = some (.slice none 0 0) := hrs.cell 6; have yf0 := hrs.frozen 0; have yf1 := hrs.frozen 1; have yf2 := hrs.frozen 2; have yf3 := hrs.frozen 3; have yf4 := hrs.frozen 4; have yf5 := hrs.frozen 5; have yf6 := hrs.frozen 6; have ye0 : (wr.setCell ⟨w.heap.size + 1, 0, none⟩ (.int .i64 k)).cell? ⟨w.heap.size + 1, 0, none⟩ = some (.int .i64 k) := (hrs.set_ 0 _).cell 0; have ye1 : ((wr.setCell ⟨w.heap.size + 1, 0, none⟩ (.int .i64 k)).setCell ⟨w.heap.size + 1, 1, none⟩ (.int .u64 a)).cell? ⟨w.heap.size + 1, 1, none⟩ = some (.int .u64 a) := ((hrs.set_ 0 _).set_ 1 _).cell 1; have ye2 : (((wr.setCell ⟨w.heap.size + 1, 0, none⟩ (.int .i64 k)).setCell ⟨w.heap.size + 1, 1, none⟩ (.int .u64 a)).setCell ⟨w.heap.size + 1, 2, none⟩ (.int .u64 b)).cell? ⟨w.heap.size + 1, 2, none⟩ = some (.int .u64 b) := (((hrs.set_ 0 _).set_ 1 _).set_ 2 _).cell 2; have ye3 : ((((wr.setCell ⟨w.heap.size + 1, 0, none⟩ (.int .i64 k)).setCell ⟨w.heap.size + 1, 1, none⟩ (.int .u64 a)).setCell ⟨w.heap.size + 1, 2, none⟩ (.int .u64 b)).setCell ⟨w.heap.size + 1, 3, none⟩ (.int .u64 c)).cell? ⟨w.heap.size + 1, 3, none⟩ = some (.int .u64 c) := ((((hrs.set_ 0 _).set_ 1 _).set_ 2 _).set_ 3 _).cell 3; have ye4 : (((((wr.setCell ⟨w.heap.size + 1, 0, none⟩ (.int .i64 k)).setCell ⟨w.heap.size + 1, 1, none⟩ (.int .u64 a)).setCell ⟨w.heap.size + 1, 2, none⟩ (.int .u64 b)).setCell ⟨w.heap.size + 1, 3, none⟩ (.int .u64 c)).setCell ⟨w.heap.size + 1, 4, none⟩ (.int .u64 d)).cell? ⟨w.heap.size + 1, 4, none⟩ = some (.int .u64 d) := (((((hrs.set_ 0 _).set_ 1 _).set_ 2 _).set_ 3 _).set_ 4 _).cell 4; have ye5 : ((((((wr.setCell ⟨w.heap.size + 1, 0, none⟩ (.int .i64 k)).setCell ⟨w.heap.size + 1, 1, none⟩ (.int .u64 a)).setCell ⟨w.heap.size + 1, 2, none⟩ (.int .u64 b)).setCell ⟨w.heap.size + 1, 3, none⟩ (.int .u64 c)).setCell ⟨w.heap.size + 1, 4, none⟩ (.int .u64 d)).setCell ⟨w.heap.size + 1, 5, none⟩ (.string t)).cell? ⟨w.heap.size + 1, 5, none⟩ = some (.string t) := ((((((hrs.set_ 0 _).set_ 1 _).set_ 2 _).set_ 3 _).set_ 4 _).set_ 5 _).cell 5; have ye6 : (((((((wr.setCell ⟨w.heap.size + 1, 0, none⟩ (.int .i64 k)).setCell ⟨w.heap.size + 1, 1, none⟩ (.int .u64 a)).setCell ⟨w.heap.size + 1, 2, none⟩ (.int .u64 b)).setCell ⟨w.heap.size + 1, 3, none⟩ (.int .u64 c)).setCell ⟨w.heap.size + 1, 4, none⟩ (.int .u64 d)).setCell ⟨w.heap.size + 1, 5, none⟩ (.string t)).setCell ⟨w.heap.size + 1, 6, none⟩ (.slice V ks.length cv)).cell? ⟨w.heap.size + 1, 6, none⟩ = some (.slice V ks.length cv) := (((((((hrs.set_ 0 _).set_ 1 _).set_ 2 _).set_ 3 _).set_ 4 _).set_ 5 _).set_ 6 _).cell 6
      go_wp2
      exact bodyPost_ret (v := .agg #[.int .i64 k, .int .u64 a, .int .u64 b, .int .u64 c, .int .u64 d, .string t, .slice V ks.length cv]) (by simp [results, Try.results50, go_sem, ye0, ye1, ye2, ye3, ye4, ye5, ye6]) rfl (HQ.out _ _ (HK.out.res7 (by omega) (by omega) _ _ _ _ _ _ _) (below_set7 hbw (by omega) _ _ _ _ _ _ _))
end Go.Proofs.Ytefechceoeeonaa

/- Rules that were made anew and may be spoilt; the mutants in a row of which each may be spoilt. Written by genca2.py out of RoF and MuM. -/
namespace Go.Proofs.Ytefechceoeeonaa
open Go.RowKit Go.Maps

/-- a grammar that rests on blocks from lo on to hi: the row of its rules and those of their bodies, each in a block of its own that may be written -/
structure CaG (W : World) (lo hi : Nat) (g : List Rl) (A : Option Addr) (cp : Nat) (rows : Nat → List Value) (L H : Nat → Nat) : Prop where
  small : ∀ r ∈ g, r.1.size ≤ maxLen
  len : g.length ≤ cp
  cap : cp ≤ maxLen
  nil : A = none → cp = 0
  blk : ∀ ad, A = some ad → ∃ bk cs, ad = ⟨bk, 0, none⟩ ∧ lo ≤ bk ∧ bk < hi ∧ Blk W bk 44 cs ∧ cs.size = cp * 8 ∧ cs.toList.take (g.length * 8) = ruF g rows 0 ∧ ∀ i, i < g.length → bk < L i ∨ H i ≤ bk
  body : ∀ i r, g[i]? = some r → CaE W (L i) (H i) r.2 (rows i)
  inn : ∀ i, i < g.length → lo ≤ L i ∧ H i ≤ hi
  ord : ∀ i j, i < j → j < g.length → H i ≤ L j
section
variable {W W' : World} {lo hi cp : Nat} {A : Option Addr} {g : List Rl} {rows : Nat → List Value} {L H : Nat → Nat}
theorem CaG.keep (h : CaG W lo hi g A cp rows L H) (hK : ∀ b, lo ≤ b → b < hi → W'.heap[b]? = W.heap[b]?) : CaG W' lo hi g A cp rows L H :=
  ⟨h.small, h.len, h.cap, h.nil, fun ad hA => by obtain ⟨bk, cs, h1, h2, h3, h4, h5⟩ := h.blk ad hA; exact ⟨bk, cs, h1, h2, h3, (hK bk h2 h3).trans h4, h5⟩, fun i r hr => (h.body i r hr).keep fun q q1 q2 => by
    have := h.inn i (getElem?_lt hr)
    exact hK q (by omega) (by omega), h.inn, h.ord⟩
theorem CaG.mono {lo' hi' : Nat} (h : CaG W lo hi g A cp rows L H) (h1 : lo' ≤ lo) (h2 : hi ≤ hi') : CaG W lo' hi' g A cp rows L H :=
  ⟨h.small, h.len, h.cap, h.nil, fun ad hA => by obtain ⟨bk, cs, e1, e2, e3, e4⟩ := h.blk ad hA; exact ⟨bk, cs, e1, by omega, by omega, e4⟩, h.body, fun i hi => by have := h.inn i hi; omega, h.ord⟩
theorem CaG.len7 (h : CaG W lo hi g A cp rows L H) : ∀ j, j < g.length → (rows (0 + j)).length = 7 := fun j hj => by rw [Nat.zero_add]; exact (h.body j _ (List.getElem?_eq_getElem hj)).len7
theorem CaG.gr (h : CaG W lo hi g A cp rows L H) : GrF (fun b => lo ≤ b ∧ b < hi) hi W g A cp rows := by
  intro X hX
  have h7 := h.len7
  have hcell : ∀ (ad : Addr), A = some ad → ∀ j u, (ruF g rows 0)[j]? = some u → X.cell? (ad.add j) = some u := fun ad hA j u hu => by
    obtain ⟨bk, cs, rfl, h2, h3, h4, h5, h6, _⟩ := h.blk ad hA
    have hlt := getElem?_lt hu
    rw [ruF_len g rows 0 h7] at hlt
    rw [cell_add, hX ⟨bk, _, none⟩ ⟨h2, h3⟩, h4.cell, ← Array.getElem?_toList, ← List.getElem?_take_of_lt hlt, h6]
    exact hu
  refine ⟨h.len, h.cap, h.nil, fun h0 => ?_, fun i r hr => h.small r (List.mem_of_getElem? hr), fun i r hr => (h.body i r hr).at X (fun p p1 p2 => hX p (by have := h.inn i (getElem?_lt hr); exact ⟨by omega, by omega⟩)) (by have := h.inn i (getElem?_lt hr); omega), fun i r ad hr hA => ?_, fun i r ad hr hA j u hu => ?_⟩
  · have h1 := h.len
    cases A with
    | none => have := h.nil rfl; omega
    | some ad =>
      obtain ⟨bk, cs, rfl, h2, h3, _⟩ := h.blk ad rfl
      exact ⟨_, rfl, h3⟩
  · exact hcell ad hA _ _ (ruF_get g rows 0 i r h7 hr).1
  · rw [add_add']
    exact hcell ad hA _ _ ((ruF_get g rows 0 i r h7 hr).2 j u (by rw [Nat.zero_add]; exact hu))
end

/-- rules with room, in a row of one's own -/
structure CRus (base : Nat) (W : World) (g : List Rl) (V : Option Addr) (c : Nat) (rows : Nat → List Value) (L H : Nat → Nat) : Prop where
  own : W.ownsRow base 44 8 (.slice V g.length c) g.length (ruF g rows 0)
  small : ∀ r ∈ g, r.1.size ≤ maxLen
  kid : ∀ i e, g[i]? = some e → CaE W (L i) (H i) e.2 (rows i)
  le : ∀ i, i < g.length → base ≤ L i ∧ H i ≤ W.heap.size
  ord : ∀ i j, i < j → j < g.length → H i ≤ L j
  apart : ∀ i q, i < g.length → (Value.slice V g.length c).ownBlock = some q → q < L i ∨ H i ≤ q
section
variable {base : Nat} {W W' : World} {g : List Rl} {V : Option Addr} {c : Nat} {rows : Nat → List Value} {L H : Nat → Nat}
theorem CRus.nil (base : Nat) (W : World) : CRus base W [] none 0 (fun _ => []) (fun _ => 0) (fun _ => 0) :=
  ⟨World.ownsRow_nil _ _ _ _, fun _ h => (by cases h), fun i e h => by simp at h, fun i h => by simp at h, fun i j _ h => by simp at h, fun i q h => by simp at h⟩
theorem CRus.below (h : CRus base W g V c rows L H) (hb : Below W.heap.size W W') : CRus base W' g V c rows L H :=
  ⟨own_below h.own hb, h.small, fun i e he => (h.kid i e he).keep fun q _ q2 => hb.block q (by have := h.le i (getElem?_lt he); omega), fun i hi => by have := h.le i hi; have := hb.size; omega, h.ord, h.apart⟩
theorem CRus.far (h : CRus base W g V c rows L H) {k : Nat} (hk : k < base) (i : Nat) (u : Value) : CRus base (W.setCell ⟨k, i, none⟩ u) g V c rows L H :=
  ⟨own_far h.own ⟨rfl, rfl, rfl, by simp [World.setCell], fun q hq hne => Below.heap_setCell W ⟨k, i, none⟩ u q (by rintro rfl; exact hne rfl)⟩ hk, h.small,
    fun j e he => (h.kid j e he).keep fun q q1 _ => Below.heap_setCell W ⟨k, i, none⟩ u q (by have := h.le j (getElem?_lt he); show q ≠ k; omega),
    fun i hi => by simpa [World.setCell] using h.le i hi, h.ord, h.apart⟩
theorem CRus.len7 (h : CRus base W g V c rows L H) : ∀ i, i < g.length → (rows i).length = 7 := fun i hi => (h.kid i _ (List.getElem?_eq_getElem hi)).len7
theorem CRus.old (h : CRus base W g V c rows L H) : ∀ q, (Value.slice V g.length c).ownBlock = some q → q < W.heap.size := fun q hq => (h.own.lt q hq).2
theorem CRus.len7z (h : CRus base W g V c rows L H) : ∀ j, j < g.length → (rows (0 + j)).length = 7 := fun j hj => by rw [Nat.zero_add]; exact h.len7 j hj
theorem CRus.one (h : CRus base W g V c rows L H) : ∀ u ∈ ruF g rows 0, u.oneCell' = true :=
  ruF_one g rows 0 fun j hj => by rw [Nat.zero_add]; exact ex_one' ((h.kid j _ (List.getElem?_eq_getElem hj)).is (Nat.le_refl _))
theorem CRus.reads (h : CRus base W g V c rows L H) : Reads W W.heap.size 8 V g.length (ruF g rows 0) ∧ (V = none → c = 0) := by
  have hl := ruF_len g rows 0 h.len7z
  have ho := h.own
  have hlt := ho.lt
  rcases ho.2 with ⟨h1, h2⟩ | ⟨g, cap, cur, hv, h3, h4, h5, h6, _⟩
  · injection h1 with e1 e2 e3
    exact ⟨⟨hl, fun h0 => by omega⟩, fun _ => e3⟩
  · injection hv with e1 e2 e3
    subst e1
    exact ⟨⟨hl, fun _ => ⟨_, rfl, (hlt g rfl).2, fun j u hu => ho.cells rfl j u hu⟩⟩, fun h => by cases h⟩
/-- one rule more -/
theorem CRus.push {V' : Option Addr} {c' lo : Nat} {r : Rl} {rc : List Value} (h : CRus base W g V c rows L H) (hlo : base ≤ lo) (hold : ∀ q, (Value.slice V g.length c).ownBlock = some q → q < lo) (hprev : ∀ i, i < g.length → H i ≤ lo) (hn : r.1.size ≤ maxLen) (hE : CaE W lo W.heap.size r.2 rc)
    (hown : W'.ownsRow base 44 8 (.slice V' (g.length + 1) c') (g.length + 1) (ruF g rows 0 ++ (.string r.1 :: rc))) (hg : W.grownBy W' (Value.slice V g.length c).ownBlock)
    (hat : (Value.slice V' (g.length + 1) c').ownBlock = (Value.slice V g.length c).ownBlock ∨ (Value.slice V' (g.length + 1) c').ownBlock = some W.heap.size) :
    CRus base W' (g ++ [r]) V' c' (fun i => if i = g.length then rc else rows i) (fun i => if i = g.length then lo else L i) (fun i => if i = g.length then W.heap.size else H i) := by
  have hl : (g ++ [r]).length = g.length + 1 := by simp
  have hz := hg.size
  constructor
  · rw [hl, ruF_app, ruF_same g (fun i => if i = g.length then rc else rows i) rows 0 (fun i hi => if_neg (by omega)), ruF, ruF, List.append_nil, Nat.zero_add, if_pos rfl]
    exact hown
  · intro x hx
    rcases List.mem_append.1 hx with hx | hx
    · exact h.small x hx
    · rw [List.mem_singleton.1 hx]; exact hn
  · intro i x hx
    by_cases hi : i < g.length
    · rw [List.getElem?_append_left hi] at hx
      have hle := h.le i hi
      have hap := h.apart i
      simp only [if_neg (show ¬ i = g.length by omega)]
      exact (h.kid i x hx).keep fun q q1 q2 => hg.block q (by omega) fun e => by have := hap q hi e.symm; omega
    · have hi' : i = g.length := by have := getElem?_lt hx; simp at this; omega
      subst hi'
      simp at hx
      subst hx
      simp only [if_true]
      exact hE.keep fun q q1 q2 => hg.block q q2 fun e => by have := hold q e.symm; omega
  · intro i hi
    rw [hl] at hi
    by_cases hi' : i = g.length
    · simp only [if_pos hi']; omega
    · have := h.le i (by omega)
      simp only [if_neg hi']; omega
  · intro i j hij hj
    rw [hl] at hj
    by_cases hj' : j = g.length
    · simp only [if_pos hj', if_neg (show ¬ i = g.length by omega)]
      exact hprev i (by omega)
    · simp only [if_neg hj', if_neg (show ¬ i = g.length by omega)]
      exact h.ord i j hij (by omega)
  · intro i q hi hq
    rw [hl] at hi hq
    by_cases hi' : i = g.length
    · simp only [if_pos hi']
      rcases hat with h1 | h1
      · rw [h1] at hq
        exact .inl (hold q hq)
      · rw [h1] at hq
        injection hq with hq
        exact .inr (by omega)
    · simp only [if_neg hi']
      rcases hat with h1 | h1
      · rw [h1] at hq
        exact h.apart i q (by omega) hq
      · rw [h1] at hq
        injection hq with hq
        have := h.le i (by omega)
        exact .inr (by omega)
/-- the grammar of these rules -/
theorem CRus.node (h : CRus base W g V c rows L H) : CaG W base W.heap.size g V c rows L H := by
  have hap := h.apart
  have hlt := h.own.lt
  rcases h.own.2 with ⟨h1, h2⟩ | ⟨g1, cap, cur, hv, h3, h4, h5, h6, h7, h8⟩
  · injection h1 with e1 e2 e3
    subst e1 e3
    exact ⟨h.small, by omega, by unfold maxLen; omega, fun _ => rfl, fun ad hA => by (cases hA), h.kid, h.le, h.ord⟩
  · injection hv with e1 e2 e3
    subst e1 e3
    refine ⟨h.small, h5, h6, fun h => (by cases h), fun ad hA => ?_, h.kid, h.le, h.ord⟩
    injection hA with hA
    subst hA
    exact ⟨g1, cur, rfl, (hlt g1 rfl).1, (hlt g1 rfl).2, h4, h7, h8, fun i hi => hap i g1 hi rfl⟩
end
/-- mutants in a row of one's own: each rests on blocks of its own -/
structure Mtc (base : Nat) (W : World) (ms : List Mt) (V : Option Addr) (c : Nat) : Prop where
  own : W.ownsRow base 24 1 (.slice V ms.length c) ms.length (ms.map Mt.val)
  gr : ∀ m ∈ ms, (∃ L H, CaG W m.lo m.hi m.g m.A m.cp m.row L H) ∧ base ≤ m.lo ∧ m.hi ≤ W.heap.size ∧ ∀ q, (Value.slice V ms.length c).ownBlock = some q → ¬ (m.lo ≤ q ∧ q < m.hi)
  apart : ms.Pairwise fun a b => a.hi ≤ b.lo
section
variable {base : Nat} {W W' : World} {ms : List Mt} {V : Option Addr} {c : Nat}
theorem Mtc.nil (base : Nat) (W : World) : Mtc base W [] none 0 := ⟨World.ownsRow_nil _ _ _ _, fun m h => (by cases h), List.Pairwise.nil⟩
theorem Mtc.below (h : Mtc base W ms V c) (hb : Below W.heap.size W W') : Mtc base W' ms V c :=
  ⟨own_below h.own hb, fun m hm => by
    obtain ⟨h1, h2, h3, h4⟩ := h.gr m hm
    exact ⟨(by obtain ⟨L, H, h1⟩ := h1; exact ⟨L, H, h1.keep fun q _ q2 => hb.block q (by omega)⟩), h2, Nat.le_trans h3 hb.size, h4⟩, h.apart⟩
/-- one mutant more -/
theorem Mtc.push {l : Nat} {V' : Option Addr} {c' : Nat} {m : Mt} (hl : ms.length = l) (h : Mtc base W ms V c) (hg : ∃ L H, CaG W m.lo m.hi m.g m.A m.cp m.row L H) (hlo : base ≤ m.lo) (hhi : m.hi ≤ W.heap.size) (hne : ∀ q, (Value.slice V l c).ownBlock = some q → ¬ (m.lo ≤ q ∧ q < m.hi)) (hold : ∀ a ∈ ms, a.hi ≤ m.lo)
    (hown : W'.ownsRow base 24 1 (.slice V' (l + 1) c') (l + 1) (ms.map Mt.val ++ [m.val])) (hgr : W.grownBy W' (Value.slice V l c).ownBlock) (hat : (Value.slice V' (l + 1) c').ownBlock = (Value.slice V l c).ownBlock ∨ (Value.slice V' (l + 1) c').ownBlock = some W.heap.size) :
    Mtc base W' (ms ++ [m]) V' c' := by
  subst hl
  have hl' : (ms ++ [m]).length = ms.length + 1 := by simp
  have hx : ∀ a : Mt, a.hi ≤ W.heap.size → (∀ q, (Value.slice V ms.length c).ownBlock = some q → ¬ (a.lo ≤ q ∧ q < a.hi)) → ∀ q, (Value.slice V' (ms.length + 1) c').ownBlock = some q → ¬ (a.lo ≤ q ∧ q < a.hi) := fun a h1 h2 q hq => by
    rcases hat with h3 | h3
    · rw [h3] at hq; exact h2 q hq
    · rw [h3] at hq; injection hq with hq; omega
  have hk : ∀ a : Mt, a.hi ≤ W.heap.size → (∀ q, (Value.slice V ms.length c).ownBlock = some q → ¬ (a.lo ≤ q ∧ q < a.hi)) → (∃ L H, CaG W a.lo a.hi a.g a.A a.cp a.row L H) → ∃ L H, CaG W' a.lo a.hi a.g a.A a.cp a.row L H := fun a h1 h2 ⟨L, H, h3⟩ =>
    ⟨L, H, h3.keep fun q q1 q2 => hgr.block q (by omega) fun e => h2 _ e.symm ⟨q1, q2⟩⟩
  refine ⟨by rw [hl', List.map_append]; exact hown, fun a ha => ?_, ?_⟩
  · rw [hl']
    rcases List.mem_append.1 ha with ha | ha
    · obtain ⟨h1, h2, h3, h4⟩ := h.gr a ha
      exact ⟨hk a h3 h4 h1, h2, Nat.le_trans h3 hgr.size, hx a h3 h4⟩
    · rw [List.mem_singleton.1 ha]
      exact ⟨hk m hhi hne hg, hlo, Nat.le_trans hhi hgr.size, hx m hhi hne⟩
  · rw [List.pairwise_append]
    exact ⟨h.apart, List.pairwise_singleton _ _, fun a ha b hb => by rw [List.mem_singleton.1 hb]; exact hold a ha⟩
end
/-- what mutate.Mutants answers -/
def MutcQ (g : List Rl) (w : World) (e : Ending) (w' : World) : Prop := Below w.heap.size w w' ∧
  (((wellG g).2 ≠ 0 ∧ e = .returned (.tuple #[.slice none 0 0, .int .i64 (wellG g).2])) ∨
   ((wellG g).2 = 0 ∧ ∃ ms V c, e = .returned (.tuple #[.slice V ms.length c, .int .i64 0]) ∧ ms.map Mt.g = mutG g ∧ Mtc w.heap.size w' ms V c))
/-- at work: the grammar's box, the mutants so far -/
structure MucS (w : World) (gv : Value) (G : List (List Rl)) (l : Nat) (V : Option Addr) (c : Nat) (W : World) : Prop where
  bel : Below w.heap.size w W
  gx : Blk W w.heap.size 24 #[gv]
  mts : ∃ ms : List Mt, ms.map Mt.g = G ∧ ms.length = l ∧ Mtc (w.heap.size + 1) W ms V c
theorem MucS.below {w W W' : World} {gv : Value} {G : List (List Rl)} {l : Nat} {V : Option Addr} {c : Nat} (h : MucS w gv G l V c W) (hb : Below W.heap.size W W') : MucS w gv G l V c W' := by
  obtain ⟨ms, h1, h2, h3⟩ := h.mts
  exact ⟨h.bel.trans (hb.mono h.bel.size), h.gx.below hb h.gx.lt, ms, h1, h2, h3.below hb⟩
/-- a mutant while it is made -/
structure MucI (G : List Rl) (nb : Nat) (wL : World) (V : Option Addr) (c : Nat) (rows : Nat → List Value) (L H : Nat → Nat) (j : Nat) (W : World) : Prop where
  bel : Below wL.heap.size wL W
  nlo : wL.heap.size ≤ nb
  out : Blk W nb 24 #[.slice V j c]
  rus : CRus (nb + 1) W (G.take j) V c rows L H
section
variable {G : List Rl} {nb : Nat} {wL : World} {V : Option Addr} {c : Nat} {rows : Nat → List Value} {L H : Nat → Nat} {j : Nat} {W W' : World}
theorem MucI.below (h : MucI G nb wL V c rows L H j W) (hb : Below W.heap.size W W') : MucI G nb wL V c rows L H j W' := ⟨h.bel.trans (hb.mono h.bel.size), h.nlo, h.out.below hb h.out.lt, h.rus.below hb⟩
theorem MucI.push {V' : Option Addr} {c' lo : Nat} {r : Rl} {rc : List Value} (h : MucI G nb wL V c rows L H j W) (he : G[j]? = some r) (hlo : nb + 1 ≤ lo) (hold : ∀ q, (Value.slice V j c).ownBlock = some q → q < lo) (hprev : ∀ i, i < j → H i ≤ lo) (hn : r.1.size ≤ maxLen) (hE : CaE W lo W.heap.size r.2 rc)
    (hown : W'.ownsRow (nb + 1) 44 8 (.slice V' (j + 1) c') (j + 1) (ruF (G.take j) rows 0 ++ (.string r.1 :: rc))) (hg : W.grownBy W' (Value.slice V j c).ownBlock)
    (hat : (Value.slice V' (j + 1) c').ownBlock = (Value.slice V j c).ownBlock ∨ (Value.slice V' (j + 1) c').ownBlock = some W.heap.size) :
    MucI G nb wL V' c' (fun i => if i = j then rc else rows i) (fun i => if i = j then lo else L i) (fun i => if i = j then W.heap.size else H i) (j + 1) (W'.setCell ⟨nb, 0, none⟩ (.slice V' (j + 1) c')) := by
  have hjl := getElem?_lt he
  have hnl := h.nlo
  have hl : (G.take j).length = j := by simp; omega
  have hne : ∀ b, b < nb + 1 → some b ≠ (Value.slice V j c).ownBlock := fun b hb e => by
    have := h.rus.own.lt b (by rw [hl]; exact e.symm)
    omega
  have hlow : Below wL.heap.size W W' := ⟨hg.os, hg.tape, hg.output, hg.size, fun q hq => hg.block q (by have := h.bel.size; omega) (hne q (by omega))⟩
  have hk := h.rus.push (V' := V') (c' := c') (lo := lo) (r := r) hlo (by rw [hl]; exact hold) (by rw [hl]; exact hprev) hn hE (by rw [hl]; exact hown) (by rw [hl]; exact hg) (by rw [hl]; exact hat)
  rw [hl] at hk
  refine ⟨(h.bel.trans hlow).setCell (by simp; omega) _, hnl, ((h.out.grown hg (hne _ (by omega))).set_ 0 _), ?_⟩
  rw [take_succ_of he]
  exact hk.far (by omega) _ _
end
end Go.Proofs.Ytefechceoeeonaa

/- mutate.Mutants: each mutant may be spoilt. Written by genca3.py out of MuN. -/
namespace Go.Proofs.Ytefechceoeeonaa
open Go.RowKit Go.Maps

theorem gram_infoC : (Try.prog.info? 24).map (fun i => (i.zero, i.size, i.bytes)) = some (some (.agg #[.slice none 0 0]), 1, 24) := by kernel_rfl
/-- and since the turns of a rule were made nothing else is other -/
def McQ2 (w w5 : World) (r0 : Option Nat) (gv : Value) (G : List (List Rl)) (l : Nat) (V : Option Addr) (c : Nat) (W : World) : Prop := MucS w gv G l V c W ∧ TwoW w5.heap.size r0 w5 W ∧ ((Value.slice V l c).ownBlock = r0 ∨ ∃ z, (Value.slice V l c).ownBlock = some z ∧ w5.heap.size ≤ z)
theorem nodes_60C {g : List Rl} (R : RightG g) : ∀ r ∈ g, nodes r.2 ≤ 1000 := fun r hr => by
  have h := R.body r hr
  obtain ⟨nm, k, a, b, c, d, t, ks⟩ := r
  have := (parts_ok h).2.2
  rw [nodes]
  omega

set_option maxRecDepth 100000 in
set_option maxHeartbeats 16000000 in
theorem mutantsC_any {g : List Rl} {A : Option Addr} {cp : Nat} {row : Nat → List Value} {w : World} (h : GrIs w w.heap.size g A cp row) : Calls Try.prog 24 #[.agg #[.slice A g.length cp]] w (MutcQ g w) := by
  have hwl := fun W (hW : Below w.heap.size w W) => well_any (h.grow hW)
  unfold WellQ at hwl
  have HWL := Lib.hid hwl
  have hQ1 : (wellG g).2 ≠ 0 → ∀ w', Below w.heap.size w w' → MutcQ g w (.returned (.tuple #[.slice none 0 0, .int .i64 (wellG g).2])) w' := fun h0 w' hb => ⟨hb, .inl ⟨h0, rfl⟩⟩
  by_cases h0 : (wellG g).2 = 0
  case neg =>
    have HQ := Lib.hid (hQ1 h0)
    have n0 : ((wellG g).2 != 0) = true := by rw [bne_iff_ne]; exact h0
    generalize MutcQ g w = Q at HQ ⊢
    generalize (wellG g).2 = x at HWL HQ n0
    generalize (wellG g).1 = y at HWL
    clear hQ1 hwl h h0
    go_enter Try.func24, Try.ntmps24
    go_wp2_with fail
    refine (HWL.out _ (by repeat (first | exact Below.refl _ _ | assumption | refine Below.drew ?_ | refine below_drewN ?_ _ | refine Below.alloc ?_ (by first | omega | (simp; omega) | simp) _ | refine Below.setCell ?_ (by first | omega | (simp; omega) | simp) _))).mono ?_
    rintro e w1 ⟨rfl, hb1⟩
    have hw1 : Below w.heap.size w w1 := Below.trans (by repeat (first | exact Below.refl _ _ | assumption | refine Below.drew ?_ | refine below_drewN ?_ _ | refine Below.alloc ?_ (by first | omega | (simp; omega) | simp) _ | refine Below.setCell ?_ (by first | omega | (simp; omega) | simp) _)) (hb1.mono (by first | omega | (simp; omega) | simp))
    clear hb1
    go_wp2
    first | exact HQ.out _ hw1 | (go_ret2; exact HQ.out _ hw1)
  have W0 := well_of h0
  have hQ2 : ∀ l V c W, MucS w (.slice A g.length cp) (mutFrom g (g.take g.length) 0) l V c W → MutcQ g w (.returned (.tuple #[.slice V l c, .int .i64 0])) W := fun l V c W hM => by
    obtain ⟨ms, h1, h2, h3⟩ := hM.mts
    rw [List.take_length] at h1
    subst h2
    refine ⟨hM.bel, .inr ⟨h0, ms, V, c, rfl, h1, ⟨?_, fun m hm => ?_, h3.apart⟩⟩⟩
    · refine ⟨h3.own.1, ?_⟩
      rcases h3.own.2 with hx | ⟨g', cap, cur, hx1, hx2, hx3⟩
      · exact .inl hx
      · exact .inr ⟨g', cap, cur, hx1, by omega, hx3⟩
    · obtain ⟨a1, a2, a3, a4⟩ := h3.gr m hm
      exact ⟨a1, by omega, a3, a4⟩
  have HQ := Lib.hid hQ2
  rw [h0] at HWL
  have R := W0.right
  have hml : (mutG g).length ≤ 360 := by have h1 := mut_len g; have h2 := R.nodes; omega
  generalize MutcQ g w = Q at HQ ⊢
  generalize (wellG g).1 = y at HWL
  have h10 := R.ten
  have hall : ∀ (j : Nat) (nm : ByteArray) (k' a' b' c' d' : Int) (t' : ByteArray) (ks' : List Ex) (A' : Option Addr) (cp' : Nat) (W : World), Below w.heap.size w W → g[j]? = some (nm, .mk k' a' b' c' d' t' ks') → ExIs w w.heap.size (.mk k' a' b' c' d' t' ks') (exCells k' a' b' c' d' t' A' ks'.length cp') →
      Calls Try.prog 58 #[.agg #[.int .i64 k', .int .u64 a', .int .u64 b', .int .u64 c', .int .u64 d', .string t', .slice A' ks'.length cp']] W (OutsQ w.heap.size (allE (.mk k' a' b' c' d' t' ks')) W) := fun j nm k' a' b' c' d' t' ks' A' cp' W hW hej hx =>
    all_any _ (k8x_rt (R.rt _ (List.mem_of_getElem? hej))) (nodes_60C R _ (List.mem_of_getElem? hej)) w.heap.size _ W hW.size (hx.keep (Nat.le_refl _) fun p hp => hW.cell hp)
  have hcp : ∀ (j : Nat) (nm : ByteArray) (k' a' b' c' d' : Int) (t' : ByteArray) (ks' : List Ex) (A' : Option Addr) (cp' : Nat) (W : World), Below w.heap.size w W → g[j]? = some (nm, .mk k' a' b' c' d' t' ks') → ExIs w w.heap.size (.mk k' a' b' c' d' t' ks') (exCells k' a' b' c' d' t' A' ks'.length cp') →
      Calls Try.prog 50 #[.agg #[.int .i64 k', .int .u64 a', .int .u64 b', .int .u64 c', .int .u64 d', .string t', .slice A' ks'.length cp']] W (CaQ (.mk k' a' b' c' d' t' ks') W) := fun j nm k' a' b' c' d' t' ks' A' cp' W hW hej hx =>
    copyc_any _ (k8_rt' (R.rt _ (List.mem_of_getElem? hej))) _ W (hx.grow hW)
  have hk8 : ∀ (m : Nat) (r : Rl), g[m]? = some r → ∀ x ∈ allE r.2, K8 x := fun m r hr => all_k8 r.2 (k8_rt' (R.rt _ (List.mem_of_getElem? hr)))
  have h60 := nodes_60C R
  have H60 := Lib.hid h60
  have hpre := fun (m : Nat) (r : Rl) q (hr : g[m]? = some r) => Nat.le_trans (mut_pre (q := q) hr) hml
  have HALL := Lib.hid hall
  have HCP := Lib.hid hcp
  have HK8 := Lib.hid hk8
  have HPRE := Lib.hid hpre
  have HG := Lib.hid h
  obtain ⟨i1, hi1, hy0, hy1, hy2⟩ := info_parts rule_info
  obtain ⟨i2, hi2, hu0, hu1, hu2⟩ := info_parts gram_infoC
  have hgcap := h.cap
  unfold maxLen at hgcap
  clear hQ1 hQ2 hwl h h0 hall hcp hk8 hpre W0 R hml h60
  go_enter Try.func24, Try.ntmps24
  go_wp2_with fail
  refine (HWL.out _ (by repeat (first | exact Below.refl _ _ | assumption | refine Below.drew ?_ | refine below_drewN ?_ _ | refine Below.alloc ?_ (by first | omega | (simp; omega) | simp) _ | refine Below.setCell ?_ (by first | omega | (simp; omega) | simp) _))).mono ?_
  rintro e w1 ⟨rfl, hb1⟩
  have hgx1 : Blk w1 w.heap.size 24 #[.slice A g.length cp] := (blk_at rfl).below hb1 (by first | omega | (simp; omega) | simp)
  have hw1 : Below w.heap.size w w1 := Below.trans (by repeat (first | exact Below.refl _ _ | assumption | refine Below.drew ?_ | refine below_drewN ?_ _ | refine Below.alloc ?_ (by first | omega | (simp; omega) | simp) _ | refine Below.setCell ?_ (by first | omega | (simp; omega) | simp) _)) (hb1.mono (by first | omega | (simp; omega) | simp))
  have HS0 : Hid (MucS w (.slice A g.length cp) (mutFrom g (g.take 0) 0) 0 none 0 w1) := ⟨hw1, hgx1, [], rfl, rfl, Mtc.nil _ _⟩
  have g0 := hgx1.cell 0
  simp at g0
  clear hb1 hgx1 hw1
  go_wp2
  clear g0
  go_loopw [6, 27] (fun v i wr => ∃ (m l : Nat) (V : Option Addr) (cv : Nat), m ≤ g.length ∧ i = .int .i64 m ∧ v = .slice V l cv ∧ Hid (MucS w (.slice A g.length cp) (mutFrom g (g.take m) 0) l V cv wr)) (fun _ i _ => g.length - (intOf i).toNat)
  case atStart => exact ⟨0, 0, none, 0, by omega, rfl, rfl, HS0⟩
  case round =>
    clear HS0
    obtain ⟨m, l, V, cv, hm, rfl, rfl, HA⟩ := hrel
    by_cases hmn : m < g.length
    · have hS0 := HA.out
      have hbw := hS0.bel
      have hzw := hbw.size
      obtain ⟨ms0, hms1, hms2, hms3⟩ := hS0.mts
      have hgl0 := hS0.gx.lt
      obtain ⟨ad, nm, k', a', b', c', d', t', ks', A', cp', rfl, hab, hej, hnm, hE, hS⟩ := HG.out.rule hmn
      have hk := fun (q : Addr) (hq : q.block = (ad.add (m * 8)).block) => hbw.cell (p := q) (by rw [hq, add_block]; omega)
      have y0 := (hk _ rfl).trans hS.c0
      have y1 := (hk ⟨_, _, none⟩ rfl).trans hS.c1
      have y2 := (hk ⟨_, _, none⟩ rfl).trans hS.c2
      have y3 := (hk ⟨_, _, none⟩ rfl).trans hS.c3
      have y4 := (hk ⟨_, _, none⟩ rfl).trans hS.c4
      have y5 := (hk ⟨_, _, none⟩ rfl).trans hS.c5
      have y6 := (hk ⟨_, _, none⟩ rfl).trans hS.c6
      have y7 := (hk ⟨_, _, none⟩ rfl).trans hS.c7
      have had1 : ad.block < wr.heap.size := by omega
      have hjl : (m : Int) < (g.length : Int) := by omega
      have hba := hbw.alloc hzw (.cells #[.string nm, .int .i64 k', .int .u64 a', .int .u64 b', .int .u64 c', .int .u64 d', .string t', .slice A' ks'.length cp'] 44)
      have hSa := hS0.below ((Below.refl _ wr).alloc (Nat.le_refl _) (.cells #[.string nm, .int .i64 k', .int .u64 a', .int .u64 b', .int .u64 c', .int .u64 d', .string t', .slice A' ks'.length cp'] 44))
      have hkb : Blk (wr.alloc (.cells #[.string nm, .int .i64 k', .int .u64 a', .int .u64 b', .int .u64 c', .int .u64 d', .string t', .slice A' ks'.length cp'] 44)) wr.heap.size 44 #[.string nm, .int .i64 k', .int .u64 a', .int .u64 b', .int .u64 c', .int .u64 d', .string t', .slice A' ks'.length cp'] := blk_at rfl
      have hsz : (wr.alloc (.cells #[.string nm, .int .i64 k', .int .u64 a', .int .u64 b', .int .u64 c', .int .u64 d', .string t', .slice A' ks'.length cp'] 44)).heap.size = wr.heap.size + 1 := by simp
      have hcl := HALL.out m nm k' a' b' c' d' t' ks' A' cp' _ hba hej hE
      have hown0 : ∀ q, (Value.slice V l cv).ownBlock = some q → w.heap.size + 1 ≤ q ∧ q < wr.heap.size := fun q hq => by
        have h := hms3.own.lt q (by rw [hms2]; exact hq)
        exact ⟨h.1, h.2⟩
      have hk8m := HK8.out m _ hej
      have hpm := fun q => HPRE.out m _ q hej
      have hsn := mutFrom_snoc hej
      have hX3 : (allE (.mk k' a' b' c' d' t' ks')).length ≤ 3000 := by
        have e1 := all_len (.mk k' a' b' c' d' t' ks')
        have e2 := H60.out _ (List.mem_of_getElem? hej)
        simp only at e2
        omega
      obtain ⟨X, hX⟩ : ∃ X, allE (.mk k' a' b' c' d' t' ks') = X := ⟨_, rfl⟩
      simp only [hX] at hcl hk8m hpm hsn hX3
      have HCL := Lib.hid hcl
      have HK8M := Lib.hid hk8m
      have HPM := Lib.hid hpm
      have HSN := Lib.hid hsn
      have HSA := Lib.hid hSa
      have HOWN0 := Lib.hid hown0
      have HRM : Hid (g[m]? = some (nm, .mk k' a' b' c' d' t' ks')) := hej
      have hwk0 : w.heap.size + 1 ≤ wr.heap.size := by omega
      clear hcl hk8m hpm hsn hS hE hej hnm hX hk hSa hS0 HA hown0 hms1 hms2 hms3 HALL HK8 HPRE
      go_upto_region 8 with fail
      clear y0 y1 y2 y3 y4 y5 y6 y7
      generalize (wr.alloc (.cells #[.string nm, .int .i64 k', .int .u64 a', .int .u64 b', .int .u64 c', .int .u64 d', .string t', .slice A' ks'.length cp'] 44)) = wk at hba HSA hkb hsz HCL ⊢
      have y1 := hkb.cell 1
      have y2 := hkb.cell 2
      have y3 := hkb.cell 3
      have y4 := hkb.cell 4
      have y5 := hkb.cell 5
      have y6 := hkb.cell 6
      have y7 := hkb.cell 7
      simp at y1 y2 y3 y4 y5 y6 y7
      go_wp2_with fail
      refine HCL.out.mono ?_
      rintro e w5 ⟨hb5, Vx, cx, rx, rfl, hOX⟩
      obtain ⟨r0, hr0⟩ : ∃ r0, (Value.slice V l cv).ownBlock = r0 := ⟨_, rfl⟩
      have hAQ : McQ2 w w5 r0 (.slice (some ad) g.length cp) (mutFrom g (g.take m) 0 ++ (((X.take 0).map fun x => putB g m x)).filter (fun m => (wellG m).2 = 0)) l V cv w5 := by
        refine ⟨?_, TwoW.of_below (Below.refl _ _), .inl hr0⟩
        have h := HSA.out.below hb5
        simpa using h
      have hold2 : ∀ q, r0 = some q → w.heap.size + 1 ≤ q ∧ q < wk.heap.size := fun q hq => by
        have h := HOWN0.out q (by rw [hr0]; exact hq)
        exact ⟨h.1, by omega⟩
      have hz5 := hb5.size
      have HAQ := Lib.hid hAQ
      have HOX := Lib.hid hOX
      have HOLD2 := Lib.hid hold2
      have hwk : w.heap.size + 1 ≤ wk.heap.size := by omega
      clear hAQ hOX hold2 hr0 hb5 hkb y1 y2 y3 y4 y5 y6 y7 HCL HSA HOWN0
      obtain ⟨nx, hnx⟩ : ∃ nx, X.length = nx := ⟨_, rfl⟩
      rw [hnx] at hX3 ⊢
      have HNX := Lib.hid hnx
      clear hnx
      rename World => wk5
      go_wp2
      go_loopw [6, 36] (fun v i wx => ∃ (q l : Nat) (V : Option Addr) (cv : Nat), q ≤ nx ∧ i = .int .i64 q ∧ v = .slice V l cv ∧ Hid (McQ2 w wk5 r0 (.slice (some ad) g.length cp) (mutFrom g (g.take m) 0 ++ (((X.take q).map fun x => putB g m x)).filter (fun m => (wellG m).2 = 0)) l V cv wx)) (fun _ i _ => nx - (intOf i).toNat)
      case atStart => exact ⟨0, _, _, _, by omega, rfl, rfl, HAQ⟩
      case round =>
        clear HAQ
        obtain ⟨q, l, Vo, co, hq, rfl, rfl, HA⟩ := hrel
        obtain ⟨wx, hwx⟩ : ∃ wx, wx = wr := ⟨_, rfl⟩
        subst hwx
        obtain ⟨hS, hT5, hown5⟩ := HA.out
        have hbx := hS.bel
        have hzx := hbx.size
        have hz5x := hT5.size
        by_cases hqn : q < nx
        · have hqi : (q : Int) < (nx : Int) := by omega
          have hXl : q < X.length := by rw [HNX.out]; exact hqn
          obtain ⟨x, hx⟩ : ∃ x, X[q]? = some x := ⟨_, List.getElem?_eq_getElem hXl⟩
          have hownX := HOX.out.own
          rw [HNX.out] at hownX
          obtain ⟨gx, curx, hVx, hgx1, hgx2, hgx3, hgx4, hgx5, hgx6⟩ := own_some hownX (by omega)
          subst hVx
          have hgxl := hgx2.lt
          have hkx := HOX.out.kid q x hx
          obtain ⟨k3, a3, b3, c3, d3, t3, A3, ln3, cp3, hr3⟩ := Ex.parts x hkx.is
          have hgr0 : some gx ≠ r0 := fun e => by have := HOLD2.out gx e.symm; omega
          have hxc : ∀ i v, i < 7 → (rx q)[i]? = some v → wx.cell? ⟨gx, q * 7 + i, none⟩ = some v := fun i v hi hv => by
            rw [World.cell?_of_block (hT5.block gx hgxl (by omega) hgr0), hgx2.cell, ← Array.getElem?_toList, ← hv, ← at_kdF (fun i hi => HOX.out.len7 i (by rw [HNX.out]; exact hi)) hqn hi, ← hgx6, List.getElem?_take_of_lt (by omega)]
          have y0 : wx.cell? ⟨gx, q * 7, none⟩ = some (.int .i64 k3) := hxc 0 _ (by omega) (by rw [hr3]; rfl)
          have y1 : wx.cell? ⟨gx, q * 7 + 1, none⟩ = some (.int .u64 a3) := hxc 1 _ (by omega) (by rw [hr3]; rfl)
          have y2 : wx.cell? ⟨gx, q * 7 + 2, none⟩ = some (.int .u64 b3) := hxc 2 _ (by omega) (by rw [hr3]; rfl)
          have y3 : wx.cell? ⟨gx, q * 7 + 3, none⟩ = some (.int .u64 c3) := hxc 3 _ (by omega) (by rw [hr3]; rfl)
          have y4 : wx.cell? ⟨gx, q * 7 + 4, none⟩ = some (.int .u64 d3) := hxc 4 _ (by omega) (by rw [hr3]; rfl)
          have y5 : wx.cell? ⟨gx, q * 7 + 5, none⟩ = some (.string t3) := hxc 5 _ (by omega) (by rw [hr3]; rfl)
          have y6 : wx.cell? ⟨gx, q * 7 + 6, none⟩ = some (.slice A3 ln3 cp3) := hxc 6 _ (by omega) (by rw [hr3]; rfl)
          have hgxx : gx < wx.heap.size := by omega
          have hxK8 := HK8M.out x (List.mem_of_getElem? hx)
          rw [hr3] at hkx
          have HKX := Lib.hid hkx
          have HX := Lib.hid hx
          have HS := Lib.hid hS
          have HT5 := Lib.hid hT5
          have HOWN5 := Lib.hid hown5
          have HX8 := Lib.hid hxK8
          have g0 : ((wx.alloc (.cells #[.int .i64 k3, .int .u64 a3, .int .u64 b3, .int .u64 c3, .int .u64 d3, .string t3, .slice A3 ln3 cp3] 38)).alloc (.cells #[.slice none 0 0] 24)).cell? ⟨w.heap.size, 0, none⟩ = some (.slice (some ad) g.length cp) := ((hS.gx.alloc _).alloc _).cell 0
          obtain ⟨xbx, hxbx⟩ : ∃ xbx, wx.heap.size = xbx := ⟨_, rfl⟩
          have hxL : Blk (wx.alloc (.cells #[.int .i64 k3, .int .u64 a3, .int .u64 b3, .int .u64 c3, .int .u64 d3, .string t3, .slice A3 ln3 cp3] 38)) xbx 38 #[.int .i64 k3, .int .u64 a3, .int .u64 b3, .int .u64 c3, .int .u64 d3, .string t3, .slice A3 ln3 cp3] := blk_at hxbx.symm
          have hbL : Below wx.heap.size wx (wx.alloc (.cells #[.int .i64 k3, .int .u64 a3, .int .u64 b3, .int .u64 c3, .int .u64 d3, .string t3, .slice A3 ln3 cp3] 38)) := (Below.refl _ wx).alloc (Nat.le_refl _) _
          have hsL : (wx.alloc (.cells #[.int .i64 k3, .int .u64 a3, .int .u64 b3, .int .u64 c3, .int .u64 d3, .string t3, .slice A3 ln3 cp3] 38)).heap.size = xbx + 1 := by simp [hxbx]
          have hmb : Blk ((wx.alloc (.cells #[.int .i64 k3, .int .u64 a3, .int .u64 b3, .int .u64 c3, .int .u64 d3, .string t3, .slice A3 ln3 cp3] 38)).alloc (.cells #[.slice none 0 0] 24)) (xbx + 1) 24 #[.slice none 0 0] := blk_at hsL.symm
          have hbM : Below (wx.alloc (.cells #[.int .i64 k3, .int .u64 a3, .int .u64 b3, .int .u64 c3, .int .u64 d3, .string t3, .slice A3 ln3 cp3] 38)).heap.size (wx.alloc (.cells #[.int .i64 k3, .int .u64 a3, .int .u64 b3, .int .u64 c3, .int .u64 d3, .string t3, .slice A3 ln3 cp3] 38)) ((wx.alloc (.cells #[.int .i64 k3, .int .u64 a3, .int .u64 b3, .int .u64 c3, .int .u64 d3, .string t3, .slice A3 ln3 cp3] 38)).alloc (.cells #[.slice none 0 0] 24)) := (Below.refl _ _).alloc (Nat.le_refl _) _
          clear hkx hr3 hx hS hT5 hown5 hxc hgx2 hgx6 hownX HA hgr0 hxK8
          go_upto_region 12 with fail
          try rw [hxbx]
          clear y0 y1 y2 y3 y4 y5 y6
          generalize (wx.alloc (.cells #[.int .i64 k3, .int .u64 a3, .int .u64 b3, .int .u64 c3, .int .u64 d3, .string t3, .slice A3 ln3 cp3] 38)) = wL at hxL hbL hsL hmb hbM g0 ⊢
          generalize (wL.alloc (.cells #[.slice none 0 0] 24)) = wM at hmb hbM g0 ⊢
          obtain ⟨nb, hnb⟩ : ∃ nb, xbx + 1 = nb := ⟨_, rfl⟩
          try rw [hnb]
          rw [hnb] at hmb hsL
          have hI0 : MucI (putB g m x) nb wL none 0 (fun _ => []) (fun _ => 0) (fun _ => 0) 0 wM := ⟨hbM, by omega, hmb, CRus.nil _ _⟩
          have HI0 := Lib.hid hI0
          clear hI0 hmb hbM
          obtain ⟨G, hG⟩ : ∃ G, putB g m x = G := ⟨_, rfl⟩
          have hGl : G.length = g.length := by rw [← hG]; exact putB_len _ _ _
          have hGat : ∀ (kk : Nat) (r : Rl), g[kk]? = some r → G[kk]? = some (r.1, if kk = m then x else r.2) := fun kk r hr => by rw [← hG, putB_at, hr]; rfl
          rw [hG] at HI0
          have HGE := Lib.hid hG
          have HGAT := Lib.hid hGat
          have hbwL : Below w.heap.size w wL := hbx.trans (hbL.mono hzx)
          have hzwL := hbwL.size
          have hxLl := hxL.lt
          have hxw : w.heap.size ≤ wx.heap.size := hzx
          clear hG hGat
          go_wp2
          clear g0
          go_loopw [44] (fun i wz => ∃ (j : Nat) (V : Option Addr) (c : Nat) (rows : Nat → List Value) (Lo Hi : Nat → Nat), j ≤ g.length ∧ i = .int .i64 j ∧ Hid (MucI G nb wL V c rows Lo Hi j wz)) (fun i _ => g.length - (intOf i).toNat)
          case atStart => exact ⟨0, none, 0, _, _, _, by omega, rfl, HI0⟩
          case round =>
            clear HI0
            obtain ⟨j, V, c, rows, Lo, Hi, hj, rfl, HI⟩ := hrel
            obtain ⟨wz, hwz⟩ : ∃ wz, wz = wr := ⟨_, rfl⟩
            subst hwz
            have hI := HI.out
            have hbz : Below w.heap.size w wz := hbwL.trans (hI.bel.mono hzwL)
            have hzz := hbz.size
            have hzLz := hI.bel.size
            have hnl := hI.out.lt
            by_cases hjn : j < g.length
            · obtain ⟨ad2, nm2, k2, a2, b2, c2, d2, t2, ks2, A2, cp2, hA2, hab2, hej2, hnm2, hE2, hS2⟩ := HG.out.rule hjn
              injection hA2 with hA2
              subst hA2
              have hk := fun (q : Addr) (hq : q.block = (ad.add (j * 8)).block) => hbz.cell (p := q) (by rw [hq, add_block]; omega)
              have y0 := (hk _ rfl).trans hS2.c0
              have y1 := (hk ⟨_, _, none⟩ rfl).trans hS2.c1
              have y2 := (hk ⟨_, _, none⟩ rfl).trans hS2.c2
              have y3 := (hk ⟨_, _, none⟩ rfl).trans hS2.c3
              have y4 := (hk ⟨_, _, none⟩ rfl).trans hS2.c4
              have y5 := (hk ⟨_, _, none⟩ rfl).trans hS2.c5
              have y6 := (hk ⟨_, _, none⟩ rfl).trans hS2.c6
              have y7 := (hk ⟨_, _, none⟩ rfl).trans hS2.c7
              have had1 : ad.block < wz.heap.size := by omega
              have hjl : (j : Int) < (g.length : Int) := by omega
              have hll : (G.take j).length = j := by simp; omega
              have hold : ∀ q, (Value.slice V j c).ownBlock = some q → q < wz.heap.size := fun q hq => hI.rus.old q (by rw [hll]; exact hq)
              have hkne : some wz.heap.size ≠ (Value.slice V j c).ownBlock := fun e => by have := hold _ e.symm; omega
              have hone : some nb ≠ (Value.slice V j c).ownBlock := fun e => by have h1 := hI.rus.own.lt nb (by rw [hll]; exact e.symm); omega
              have HNM := Lib.hid hnm2
              have hgj := HGAT.out j _ hej2
              have hWx : Below wx.heap.size wx wz := hbL.trans (hI.bel.mono hbL.size)
              have hyb : Blk (wz.alloc (.cells #[.string nm2, .int .i64 k2, .int .u64 a2, .int .u64 b2, .int .u64 c2, .int .u64 d2, .string t2, .slice A2 ks2.length cp2] 44)) wz.heap.size 44 #[.string nm2, .int .i64 k2, .int .u64 a2, .int .u64 b2, .int .u64 c2, .int .u64 d2, .string t2, .slice A2 ks2.length cp2] := blk_at rfl
              have hby0 : Below wz.heap.size wz (wz.alloc (.cells #[.string nm2, .int .i64 k2, .int .u64 a2, .int .u64 b2, .int .u64 c2, .int .u64 d2, .string t2, .slice A2 ks2.length cp2] 44)) := (Below.refl _ wz).alloc (Nat.le_refl _) _
              have hxz : Blk (wz.alloc (.cells #[.string nm2, .int .i64 k2, .int .u64 a2, .int .u64 b2, .int .u64 c2, .int .u64 d2, .string t2, .slice A2 ks2.length cp2] 44)) xbx 38 #[.int .i64 k3, .int .u64 a3, .int .u64 b3, .int .u64 c3, .int .u64 d3, .string t3, .slice A3 ln3 cp3] := (hxL.below hI.bel hxL.lt).alloc _
              clear hk
              go_upto_region 15 with fail
              clear y0 y1 y2 y3 y4 y5 y6 y7
              generalize (wz.alloc (.cells #[.string nm2, .int .i64 k2, .int .u64 a2, .int .u64 b2, .int .u64 c2, .int .u64 d2, .string t2, .slice A2 ks2.length cp2] 44)) = wy at hyb hby0 hxz ⊢
              by_cases hjm : j = m
              · have hjmi : ((j : Int) == (m : Int)) = true := by rw [beq_iff_eq]; omega
                rw [if_pos hjm] at hgj
                have HEJ : Hid (G[j]? = some (nm2, x)) := hgj
                clear hjm
                have hxlz : xbx < wz.heap.size := by omega
                have x0 : wy.cell? ⟨xbx, 0, none⟩ = some (.int .i64 k3) := hxz.cell 0
                have x1 : wy.cell? ⟨xbx, 1, none⟩ = some (.int .u64 a3) := hxz.cell 1
                have x2 : wy.cell? ⟨xbx, 2, none⟩ = some (.int .u64 b3) := hxz.cell 2
                have x3 : wy.cell? ⟨xbx, 3, none⟩ = some (.int .u64 c3) := hxz.cell 3
                have x4 : wy.cell? ⟨xbx, 4, none⟩ = some (.int .u64 d3) := hxz.cell 4
                have x5 : wy.cell? ⟨xbx, 5, none⟩ = some (.string t3) := hxz.cell 5
                have x6 : wy.cell? ⟨xbx, 6, none⟩ = some (.slice A3 ln3 cp3) := hxz.cell 6
                have z1 : wy.cell? ⟨wz.heap.size, 1, none⟩ = some (.int .i64 k2) := hyb.cell 1
                have z2 : wy.cell? ⟨wz.heap.size, 2, none⟩ = some (.int .u64 a2) := hyb.cell 2
                have z3 : wy.cell? ⟨wz.heap.size, 3, none⟩ = some (.int .u64 b2) := hyb.cell 3
                have z4 : wy.cell? ⟨wz.heap.size, 4, none⟩ = some (.int .u64 c2) := hyb.cell 4
                have z5 : wy.cell? ⟨wz.heap.size, 5, none⟩ = some (.int .u64 d2) := hyb.cell 5
                have z6 : wy.cell? ⟨wz.heap.size, 6, none⟩ = some (.string t2) := hyb.cell 6
                have z7 : wy.cell? ⟨wz.heap.size, 7, none⟩ = some (.slice A2 ks2.length cp2) := hyb.cell 7
                have f1 := hyb.frozen 1
                have f2 := hyb.frozen 2
                have f3 := hyb.frozen 3
                have f4 := hyb.frozen 4
                have f5 := hyb.frozen 5
                have f6 := hyb.frozen 6
                have f7 := hyb.frozen 7
                have hyb2 : Blk (((((((wy.setCell ⟨wz.heap.size, 1, none⟩ (.int .i64 k3)).setCell ⟨wz.heap.size, 2, none⟩ (.int .u64 a3)).setCell ⟨wz.heap.size, 3, none⟩ (.int .u64 b3)).setCell ⟨wz.heap.size, 4, none⟩ (.int .u64 c3)).setCell ⟨wz.heap.size, 5, none⟩ (.int .u64 d3)).setCell ⟨wz.heap.size, 6, none⟩ (.string t3)).setCell ⟨wz.heap.size, 7, none⟩ (.slice A3 ln3 cp3)) wz.heap.size 44 #[.string nm2, .int .i64 k3, .int .u64 a3, .int .u64 b3, .int .u64 c3, .int .u64 d3, .string t3, .slice A3 ln3 cp3] := rule_set7 hyb (.int .i64 k3) (.int .u64 a3) (.int .u64 b3) (.int .u64 c3) (.int .u64 d3) (.string t3) (.slice A3 ln3 cp3)
                have hby : Below wz.heap.size wz (((((((wy.setCell ⟨wz.heap.size, 1, none⟩ (.int .i64 k3)).setCell ⟨wz.heap.size, 2, none⟩ (.int .u64 a3)).setCell ⟨wz.heap.size, 3, none⟩ (.int .u64 b3)).setCell ⟨wz.heap.size, 4, none⟩ (.int .u64 c3)).setCell ⟨wz.heap.size, 5, none⟩ (.int .u64 d3)).setCell ⟨wz.heap.size, 6, none⟩ (.string t3)).setCell ⟨wz.heap.size, 7, none⟩ (.slice A3 ln3 cp3)) := below_set7' hby0 (Nat.le_refl _) (.int .i64 k3) (.int .u64 a3) (.int .u64 b3) (.int .u64 c3) (.int .u64 d3) (.string t3) (.slice A3 ln3 cp3)
                have hI1 := hI.below hby
                have hC0 : RuC nb wz.heap.size #[.slice V j c] #[.string nm2, .int .i64 k3, .int .u64 a3, .int .u64 b3, .int .u64 c3, .int .u64 d3, .string t3, .slice A3 ln3 cp3] (((((((wy.setCell ⟨wz.heap.size, 1, none⟩ (.int .i64 k3)).setCell ⟨wz.heap.size, 2, none⟩ (.int .u64 a3)).setCell ⟨wz.heap.size, 3, none⟩ (.int .u64 b3)).setCell ⟨wz.heap.size, 4, none⟩ (.int .u64 c3)).setCell ⟨wz.heap.size, 5, none⟩ (.int .u64 d3)).setCell ⟨wz.heap.size, 6, none⟩ (.string t3)).setCell ⟨wz.heap.size, 7, none⟩ (.slice A3 ln3 cp3)) := ⟨hI.out.below hby hI.out.lt, hyb2⟩
                have hWx1 := hWx.trans (hby.mono hWx.size)
                have hbase1 : nb + 1 ≤ (((((((wy.setCell ⟨wz.heap.size, 1, none⟩ (.int .i64 k3)).setCell ⟨wz.heap.size, 2, none⟩ (.int .u64 a3)).setCell ⟨wz.heap.size, 3, none⟩ (.int .u64 b3)).setCell ⟨wz.heap.size, 4, none⟩ (.int .u64 c3)).setCell ⟨wz.heap.size, 5, none⟩ (.int .u64 d3)).setCell ⟨wz.heap.size, 6, none⟩ (.string t3)).setCell ⟨wz.heap.size, 7, none⟩ (.slice A3 ln3 cp3)).heap.size := by have := hby.size; omega
                have hold1 : ∀ q, (Value.slice V j c).ownBlock = some q → q < (((((((wy.setCell ⟨wz.heap.size, 1, none⟩ (.int .i64 k3)).setCell ⟨wz.heap.size, 2, none⟩ (.int .u64 a3)).setCell ⟨wz.heap.size, 3, none⟩ (.int .u64 b3)).setCell ⟨wz.heap.size, 4, none⟩ (.int .u64 c3)).setCell ⟨wz.heap.size, 5, none⟩ (.int .u64 d3)).setCell ⟨wz.heap.size, 6, none⟩ (.string t3)).setCell ⟨wz.heap.size, 7, none⟩ (.slice A3 ln3 cp3)).heap.size := fun q hq => by have := hold q hq; have := hby.size; omega
                have hprev1 : ∀ i, i < j → Hi i ≤ (((((((wy.setCell ⟨wz.heap.size, 1, none⟩ (.int .i64 k3)).setCell ⟨wz.heap.size, 2, none⟩ (.int .u64 a3)).setCell ⟨wz.heap.size, 3, none⟩ (.int .u64 b3)).setCell ⟨wz.heap.size, 4, none⟩ (.int .u64 c3)).setCell ⟨wz.heap.size, 5, none⟩ (.int .u64 d3)).setCell ⟨wz.heap.size, 6, none⟩ (.string t3)).setCell ⟨wz.heap.size, 7, none⟩ (.slice A3 ln3 cp3)).heap.size := fun i hi => by have := (hI.rus.le i (by rw [hll]; exact hi)).2; have := hby.size; omega
                have HI1 := Lib.hid hI1
                have HC0 := Lib.hid hC0
                have HWX1 := Lib.hid hWx1
                have HBA1 := Lib.hid hbase1
                have HOL1 := Lib.hid hold1
                have HPR1 := Lib.hid hprev1
                clear hby hyb2 hI1 hC0 hWx1 hbase1 hold1 hprev1
                go_upto_region 17 with fail
                clear x0 x1 x2 x3 x4 x5 x6 z1 z2 z3 z4 z5 z6 z7 f1 f2 f3 f4 f5 f6 f7 hxz hyb
                generalize (((((((wy.setCell ⟨wz.heap.size, 1, none⟩ (.int .i64 k3)).setCell ⟨wz.heap.size, 2, none⟩ (.int .u64 a3)).setCell ⟨wz.heap.size, 3, none⟩ (.int .u64 b3)).setCell ⟨wz.heap.size, 4, none⟩ (.int .u64 c3)).setCell ⟨wz.heap.size, 5, none⟩ (.int .u64 d3)).setCell ⟨wz.heap.size, 6, none⟩ (.string t3)).setCell ⟨wz.heap.size, 7, none⟩ (.slice A3 ln3 cp3)) = w11 at HI1 HC0 HWX1 HBA1 HOL1 HPR1 ⊢
                have hI1 := HI1.out
                have hC0 := HC0.out
                have hWx1 := HWX1.out
                have hbase1 := HBA1.out
                have hold1 := HOL1.out
                have hprev1 := HPR1.out
                clear HI1 HC0 HWX1 HBA1 HOL1 HPR1
                generalize wz.heap.size = kb at hC0 hkne ⊢
                have hc1 : ∀ W, Below w11.heap.size w11 W → Calls Try.prog 50 #[.agg #[.int .i64 k3, .int .u64 a3, .int .u64 b3, .int .u64 c3, .int .u64 d3, .string t3, .slice A3 ln3 cp3]] W (CaQ x W) := fun W hW => by
                  have hx2 := hWx1.trans (hW.mono hWx1.size)
                  refine copyc_any x HX8.out _ W ?_
                  refine ExIs.keep ((HKX.out.keep (W' := W) fun p hp => World.cell?_of_block ((HT5.out.more hx2).block p.block hp.1 (by have := hp.1; omega) fun e => ?_).symm.symm).is) (by have := hx2.size; omega) fun p _ => rfl
                  have h := HOLD2.out p.block e.symm
                  exact hp.2.1 ⟨by omega, h.2⟩
                have HC1 := Lib.hid hc1
                clear hc1 hWx1 hI HI hold hE2 hej2 hgj hnm2 hS2 had1
                refine wp_region_l (RuC nb kb #[.slice V j c] #[.string nm2, .int .i64 k3, .int .u64 a3, .int .u64 b3, .int .u64 c3, .int .u64 d3, .string t3, .slice A3 ln3 cp3]) (· == 11) (by kernel_rfl) ?_
                have hC := hC0.below (Below.refl _ _).drew
                have hI := hI1.below (Below.refl _ _).drew
                have hbd : (w11.drew).heap.size = w11.heap.size := rfl
                have hDr : Below w11.heap.size w11 w11.drew := (Below.refl _ _).drew
                rw [← hbd] at hbase1 hold1 hprev1
                generalize w11.drew = wd at hC hI hbase1 hold1 hprev1 hDr ⊢
                clear hC0 hI1 hbd
                apply L.rd (i := 0) rfl (by kernel_rfl) hC rfl
                · intro W hW
                  skip
                  unfold readW
                  go_simp
                  first | rfl | exact ⟨rfl, rfl⟩
                first | simp only [Act.put, List.setIfInBounds_toArray, List.set_cons_succ, List.set_cons_zero] | skip
                apply L.rd (i := 1) rfl (by kernel_rfl) hC rfl
                · intro W hW
                  have n0 := hW.out.cell 0
                  unfold readW
                  go_simp
                  first | rfl | exact ⟨rfl, rfl⟩
                first | simp only [Act.put, List.setIfInBounds_toArray, List.set_cons_succ, List.set_cons_zero] | skip
                apply L.rd (i := 2) rfl (by kernel_rfl) hC rfl
                · intro W hW
                  skip
                  unfold readW
                  go_simp
                  first | rfl | exact ⟨rfl, rfl⟩
                first | simp only [Act.put, List.setIfInBounds_toArray, List.set_cons_succ, List.set_cons_zero] | skip
                apply L.rd (i := 3) rfl (by kernel_rfl) hC rfl
                · intro W hW
                  have n0 := hW.rule.cell 0
                  unfold readW
                  go_simp
                  first | rfl | exact ⟨rfl, rfl⟩
                first | simp only [Act.put, List.setIfInBounds_toArray, List.set_cons_succ, List.set_cons_zero] | skip
                apply L.rd (i := 4) rfl (by kernel_rfl) hC rfl
                · intro W hW
                  skip
                  unfold readW
                  go_simp
                  first | rfl | exact ⟨rfl, rfl⟩
                first | simp only [Act.put, List.setIfInBounds_toArray, List.set_cons_succ, List.set_cons_zero] | skip
                apply L.rd (i := 5) rfl (by kernel_rfl) hC rfl
                · intro W hW
                  have r1 := hW.rule.cell 1; have r2 := hW.rule.cell 2; have r3 := hW.rule.cell 3; have r4 := hW.rule.cell 4; have r5 := hW.rule.cell 5; have r6 := hW.rule.cell 6; have r7 := hW.rule.cell 7
                  unfold readW
                  go_simp
                  first | rfl | exact ⟨rfl, rfl⟩
                first | simp only [Act.put, List.setIfInBounds_toArray, List.set_cons_succ, List.set_cons_zero] | skip
                apply L.one (i := 6) rfl (by kernel_rfl) rfl
                unfold stepT
                go_simp
                go_at_call 50
                refine (HC1.out _ hDr).mono ?_
                rintro e wn ⟨⟨rc, rfl, hF⟩, hbn⟩
                have hC := hC.below hbn
                have hI := hI.below hbn
                have hbase2 := Nat.le_trans hbase1 hbn.size
                clear hbn hDr
                have hrc := ex_one' (hF.is (Nat.le_refl _))
                obtain ⟨k1, a1, b1, c1, d1, t1, A1, n1, cp1, rfl⟩ := Ex.parts _ (hF.is (Nat.le_refl _))
                refine ⟨_, rfl, hC, ?_⟩
                first | simp only [Act.put, List.setIfInBounds_toArray, List.set_cons_succ, List.set_cons_zero] | skip
                apply L.rd (i := 7) rfl (by kernel_rfl) hC rfl
                · intro W hW
                  skip
                  unfold readW
                  go_simp
                  first | rfl | exact ⟨rfl, rfl⟩
                first | simp only [Act.put, List.setIfInBounds_toArray, List.set_cons_succ, List.set_cons_zero] | skip
                apply L.one (i := 8) rfl (by kernel_rfl) rfl
                unfold stepT
                go_simp
                have hF1 : CaE (wn.alloc (.cells #[.string nm2, .int .i64 k1, .int .u64 a1, .int .u64 b1, .int .u64 c1, .int .u64 d1, .string t1, .slice A1 n1 cp1] 44)) wd.heap.size (wn.alloc (.cells #[.string nm2, .int .i64 k1, .int .u64 a1, .int .u64 b1, .int .u64 c1, .int .u64 d1, .string t1, .slice A1 n1 cp1] 44)).heap.size _ _ := (hF.keep (W' := (wn.alloc (.cells #[.string nm2, .int .i64 k1, .int .u64 a1, .int .u64 b1, .int .u64 c1, .int .u64 d1, .string t1, .slice A1 n1 cp1] 44))) fun q _ hq => Below.heap_alloc wn _ q hq).mono (Nat.le_refl _) (by simp)
                have hkb : Blk (wn.alloc (.cells #[.string nm2, .int .i64 k1, .int .u64 a1, .int .u64 b1, .int .u64 c1, .int .u64 d1, .string t1, .slice A1 n1 cp1] 44)) wn.heap.size 44 #[.string nm2, .int .i64 k1, .int .u64 a1, .int .u64 b1, .int .u64 c1, .int .u64 d1, .string t1, .slice A1 n1 cp1] := blk_at rfl
                have hC := hC.below ((Below.refl _ _).alloc (Nat.le_refl _) (.cells #[.string nm2, .int .i64 k1, .int .u64 a1, .int .u64 b1, .int .u64 c1, .int .u64 d1, .string t1, .slice A1 n1 cp1] 44))
                have hI := hI.below ((Below.refl _ _).alloc (Nat.le_refl _) (.cells #[.string nm2, .int .i64 k1, .int .u64 a1, .int .u64 b1, .int .u64 c1, .int .u64 d1, .string t1, .slice A1 n1 cp1] 44))
                have hbase3 : nb + 1 ≤ (wn.alloc (.cells #[.string nm2, .int .i64 k1, .int .u64 a1, .int .u64 b1, .int .u64 c1, .int .u64 d1, .string t1, .slice A1 n1 cp1] 44)).heap.size := by simp; omega
                generalize (wn.alloc (.cells #[.string nm2, .int .i64 k1, .int .u64 a1, .int .u64 b1, .int .u64 c1, .int .u64 d1, .string t1, .slice A1 n1 cp1] 44)) = wkk at hC hI hkb hF1 hbase3 ⊢
                generalize wn.heap.size = rb at hkb ⊢
                clear hF hbase2
                refine ⟨hC, ?_⟩
                apply L.one (i := 9) rfl (by kernel_rfl) rfl
                refine stepT_append_at (.tmp 55) (.tmp 62) 22 rfl (nb + 1) 44 i1 _ 8 96 Try.underlying22 hi1 hy0 hy1 hy2 rfl (by decide) (.slice V j c) j (ruF (G.take j) rows 0) (by simp [Act.eval]) (by have h1 := hI.rus.own; rw [hll] at h1; exact h1) ⟨rb, 0, none⟩ 1 1 (.string nm2 :: [.int .i64 k1, .int .u64 a1, .int .u64 b1, .int .u64 c1, .int .u64 d1, .string t1, .slice A1 n1 cp1]) (by simp [Act.eval]) rfl (fun i u hu => by rw [cell_add]; exact (hkb.cell i).trans (by rw [List.getElem?_toArray]; exact hu)) (fun u hu => by rcases List.mem_cons.1 hu with rfl | hu; rfl; exact hrc u hu) (by unfold maxLen; omega) (by omega) hbase3 ?_
                intro v' w3 hown hgr hat
                obtain ⟨V3, c3, rfl⟩ := own_form hown
                have hI3 := hI.push HEJ.out hbase1 hold1 hprev1 HNM.out hF1 hown hgr hat
                have hC := hC.grown hgr hone hkne
                refine ⟨fun _ => hC, ?_⟩
                first | simp only [Act.put, List.setIfInBounds_toArray, List.set_cons_succ, List.set_cons_zero] | skip
                apply L.rd (i := 10) rfl (by kernel_rfl) hC rfl
                · intro W hW
                  skip
                  unfold readW
                  go_simp
                  first | rfl | exact ⟨rfl, rfl⟩
                first | simp only [Act.put, List.setIfInBounds_toArray, List.set_cons_succ, List.set_cons_zero] | skip
                have n0 := hC.out.cell 0
                have f0 := hC.out.frozen 0
                apply L.one (i := 11) rfl (by kernel_rfl) rfl
                unfold stepT
                go_simp
                refine L.done (by kernel_rfl) ?_
                have HI3 := Lib.hid hI3
                clear hI hI3 hC hown hgr hkb n0 f0 hat hF1 hold1 hprev1 hbase1 hbase3 hkne hone hll
                go_wp2
                go_roundw
                case rel => exact ⟨j + 1, V3, c3, _, _, _, by omega, by go_num, HI3⟩
                case measure => simp [intOf]; omega
              · have hjmi : ((j : Int) == (m : Int)) = false := by rw [beq_eq_false_iff_ne]; omega
                rw [if_neg hjm] at hgj
                have HEJ : Hid (G[j]? = some (nm2, .mk k2 a2 b2 c2 d2 t2 ks2)) := hgj
                clear hjm
                have hby := hby0
                have hI1 := hI.below hby
                have hC0 : RuC nb wz.heap.size #[.slice V j c] #[.string nm2, .int .i64 k2, .int .u64 a2, .int .u64 b2, .int .u64 c2, .int .u64 d2, .string t2, .slice A2 ks2.length cp2] wy := ⟨hI.out.below hby hI.out.lt, hyb⟩
                have hbz1 := hbz.trans (hby.mono hzz)
                have hbase1 : nb + 1 ≤ wy.heap.size := by have := hby.size; omega
                have hold1 : ∀ q, (Value.slice V j c).ownBlock = some q → q < wy.heap.size := fun q hq => by have := hold q hq; have := hby.size; omega
                have hprev1 : ∀ i, i < j → Hi i ≤ wy.heap.size := fun i hi => by have := (hI.rus.le i (by rw [hll]; exact hi)).2; have := hby.size; omega
                have HI1 := Lib.hid hI1
                have HC0 := Lib.hid hC0
                have HBZ1 := Lib.hid hbz1
                have HBA1 := Lib.hid hbase1
                have HOL1 := Lib.hid hold1
                have HPR1 := Lib.hid hprev1
                clear hby hyb hI1 hC0 hbz1 hbase1 hold1 hprev1
                go_upto_region 17 with fail
                generalize wy = w11 at HI1 HC0 HBZ1 HBA1 HOL1 HPR1 ⊢
                have hI1 := HI1.out
                have hC0 := HC0.out
                have hbz1 := HBZ1.out
                have hbase1 := HBA1.out
                have hold1 := HOL1.out
                have hprev1 := HPR1.out
                clear HI1 HC0 HBZ1 HBA1 HOL1 HPR1
                generalize wz.heap.size = kb at hC0 hkne ⊢
                have hc1 : ∀ W, Below w11.heap.size w11 W → Calls Try.prog 50 #[.agg #[.int .i64 k2, .int .u64 a2, .int .u64 b2, .int .u64 c2, .int .u64 d2, .string t2, .slice A2 ks2.length cp2]] W (CaQ (.mk k2 a2 b2 c2 d2 t2 ks2) W) := fun W hW => HCP.out j nm2 k2 a2 b2 c2 d2 t2 ks2 A2 cp2 W (hbz1.trans (hW.mono hbz1.size)) hej2 hE2
                have HC1 := Lib.hid hc1
                clear hc1 hI HI hold hE2 hej2 hgj hnm2 hS2 had1
                refine wp_region_l (RuC nb kb #[.slice V j c] #[.string nm2, .int .i64 k2, .int .u64 a2, .int .u64 b2, .int .u64 c2, .int .u64 d2, .string t2, .slice A2 ks2.length cp2]) (· == 11) (by kernel_rfl) ?_
                have hC := hC0.below (Below.refl _ _).drew
                have hI := hI1.below (Below.refl _ _).drew
                have hbd : (w11.drew).heap.size = w11.heap.size := rfl
                have hDr : Below w11.heap.size w11 w11.drew := (Below.refl _ _).drew
                rw [← hbd] at hbase1 hold1 hprev1
                generalize w11.drew = wd at hC hI hbase1 hold1 hprev1 hDr ⊢
                clear hC0 hI1 hbd
                apply L.rd (i := 0) rfl (by kernel_rfl) hC rfl
                · intro W hW
                  skip
                  unfold readW
                  go_simp
                  first | rfl | exact ⟨rfl, rfl⟩
                first | simp only [Act.put, List.setIfInBounds_toArray, List.set_cons_succ, List.set_cons_zero] | skip
                apply L.rd (i := 1) rfl (by kernel_rfl) hC rfl
                · intro W hW
                  have n0 := hW.out.cell 0
                  unfold readW
                  go_simp
                  first | rfl | exact ⟨rfl, rfl⟩
                first | simp only [Act.put, List.setIfInBounds_toArray, List.set_cons_succ, List.set_cons_zero] | skip
                apply L.rd (i := 2) rfl (by kernel_rfl) hC rfl
                · intro W hW
                  skip
                  unfold readW
                  go_simp
                  first | rfl | exact ⟨rfl, rfl⟩
                first | simp only [Act.put, List.setIfInBounds_toArray, List.set_cons_succ, List.set_cons_zero] | skip
                apply L.rd (i := 3) rfl (by kernel_rfl) hC rfl
                · intro W hW
                  have n0 := hW.rule.cell 0
                  unfold readW
                  go_simp
                  first | rfl | exact ⟨rfl, rfl⟩
                first | simp only [Act.put, List.setIfInBounds_toArray, List.set_cons_succ, List.set_cons_zero] | skip
                apply L.rd (i := 4) rfl (by kernel_rfl) hC rfl
                · intro W hW
                  skip
                  unfold readW
                  go_simp
                  first | rfl | exact ⟨rfl, rfl⟩
                first | simp only [Act.put, List.setIfInBounds_toArray, List.set_cons_succ, List.set_cons_zero] | skip
                apply L.rd (i := 5) rfl (by kernel_rfl) hC rfl
                · intro W hW
                  have r1 := hW.rule.cell 1; have r2 := hW.rule.cell 2; have r3 := hW.rule.cell 3; have r4 := hW.rule.cell 4; have r5 := hW.rule.cell 5; have r6 := hW.rule.cell 6; have r7 := hW.rule.cell 7
                  unfold readW
                  go_simp
                  first | rfl | exact ⟨rfl, rfl⟩
                first | simp only [Act.put, List.setIfInBounds_toArray, List.set_cons_succ, List.set_cons_zero] | skip
                apply L.one (i := 6) rfl (by kernel_rfl) rfl
                unfold stepT
                go_simp
                go_at_call 50
                refine (HC1.out _ hDr).mono ?_
                rintro e wn ⟨⟨rc, rfl, hF⟩, hbn⟩
                have hC := hC.below hbn
                have hI := hI.below hbn
                have hbase2 := Nat.le_trans hbase1 hbn.size
                clear hbn hDr
                have hrc := ex_one' (hF.is (Nat.le_refl _))
                obtain ⟨k1, a1, b1, c1, d1, t1, A1, n1, cp1, rfl⟩ := Ex.parts _ (hF.is (Nat.le_refl _))
                refine ⟨_, rfl, hC, ?_⟩
                first | simp only [Act.put, List.setIfInBounds_toArray, List.set_cons_succ, List.set_cons_zero] | skip
                apply L.rd (i := 7) rfl (by kernel_rfl) hC rfl
                · intro W hW
                  skip
                  unfold readW
                  go_simp
                  first | rfl | exact ⟨rfl, rfl⟩
                first | simp only [Act.put, List.setIfInBounds_toArray, List.set_cons_succ, List.set_cons_zero] | skip
                apply L.one (i := 8) rfl (by kernel_rfl) rfl
                unfold stepT
                go_simp
                have hF1 : CaE (wn.alloc (.cells #[.string nm2, .int .i64 k1, .int .u64 a1, .int .u64 b1, .int .u64 c1, .int .u64 d1, .string t1, .slice A1 n1 cp1] 44)) wd.heap.size (wn.alloc (.cells #[.string nm2, .int .i64 k1, .int .u64 a1, .int .u64 b1, .int .u64 c1, .int .u64 d1, .string t1, .slice A1 n1 cp1] 44)).heap.size _ _ := (hF.keep (W' := (wn.alloc (.cells #[.string nm2, .int .i64 k1, .int .u64 a1, .int .u64 b1, .int .u64 c1, .int .u64 d1, .string t1, .slice A1 n1 cp1] 44))) fun q _ hq => Below.heap_alloc wn _ q hq).mono (Nat.le_refl _) (by simp)
                have hkb : Blk (wn.alloc (.cells #[.string nm2, .int .i64 k1, .int .u64 a1, .int .u64 b1, .int .u64 c1, .int .u64 d1, .string t1, .slice A1 n1 cp1] 44)) wn.heap.size 44 #[.string nm2, .int .i64 k1, .int .u64 a1, .int .u64 b1, .int .u64 c1, .int .u64 d1, .string t1, .slice A1 n1 cp1] := blk_at rfl
                have hC := hC.below ((Below.refl _ _).alloc (Nat.le_refl _) (.cells #[.string nm2, .int .i64 k1, .int .u64 a1, .int .u64 b1, .int .u64 c1, .int .u64 d1, .string t1, .slice A1 n1 cp1] 44))
                have hI := hI.below ((Below.refl _ _).alloc (Nat.le_refl _) (.cells #[.string nm2, .int .i64 k1, .int .u64 a1, .int .u64 b1, .int .u64 c1, .int .u64 d1, .string t1, .slice A1 n1 cp1] 44))
                have hbase3 : nb + 1 ≤ (wn.alloc (.cells #[.string nm2, .int .i64 k1, .int .u64 a1, .int .u64 b1, .int .u64 c1, .int .u64 d1, .string t1, .slice A1 n1 cp1] 44)).heap.size := by simp; omega
                generalize (wn.alloc (.cells #[.string nm2, .int .i64 k1, .int .u64 a1, .int .u64 b1, .int .u64 c1, .int .u64 d1, .string t1, .slice A1 n1 cp1] 44)) = wkk at hC hI hkb hF1 hbase3 ⊢
                generalize wn.heap.size = rb at hkb ⊢
                clear hF hbase2
                refine ⟨hC, ?_⟩
                apply L.one (i := 9) rfl (by kernel_rfl) rfl
                refine stepT_append_at (.tmp 55) (.tmp 62) 22 rfl (nb + 1) 44 i1 _ 8 96 Try.underlying22 hi1 hy0 hy1 hy2 rfl (by decide) (.slice V j c) j (ruF (G.take j) rows 0) (by simp [Act.eval]) (by have h1 := hI.rus.own; rw [hll] at h1; exact h1) ⟨rb, 0, none⟩ 1 1 (.string nm2 :: [.int .i64 k1, .int .u64 a1, .int .u64 b1, .int .u64 c1, .int .u64 d1, .string t1, .slice A1 n1 cp1]) (by simp [Act.eval]) rfl (fun i u hu => by rw [cell_add]; exact (hkb.cell i).trans (by rw [List.getElem?_toArray]; exact hu)) (fun u hu => by rcases List.mem_cons.1 hu with rfl | hu; rfl; exact hrc u hu) (by unfold maxLen; omega) (by omega) hbase3 ?_
                intro v' w3 hown hgr hat
                obtain ⟨V3, c3, rfl⟩ := own_form hown
                have hI3 := hI.push HEJ.out hbase1 hold1 hprev1 HNM.out hF1 hown hgr hat
                have hC := hC.grown hgr hone hkne
                refine ⟨fun _ => hC, ?_⟩
                first | simp only [Act.put, List.setIfInBounds_toArray, List.set_cons_succ, List.set_cons_zero] | skip
                apply L.rd (i := 10) rfl (by kernel_rfl) hC rfl
                · intro W hW
                  skip
                  unfold readW
                  go_simp
                  first | rfl | exact ⟨rfl, rfl⟩
                first | simp only [Act.put, List.setIfInBounds_toArray, List.set_cons_succ, List.set_cons_zero] | skip
                have n0 := hC.out.cell 0
                have f0 := hC.out.frozen 0
                apply L.one (i := 11) rfl (by kernel_rfl) rfl
                unfold stepT
                go_simp
                refine L.done (by kernel_rfl) ?_
                have HI3 := Lib.hid hI3
                clear hI hI3 hC hown hgr hkb n0 f0 hat hF1 hold1 hprev1 hbase1 hbase3 hkne hone hll
                go_wp2
                go_roundw
                case rel => exact ⟨j + 1, V3, c3, _, _, _, by omega, by go_num, HI3⟩
                case measure => simp [intOf]; omega
            · obtain rfl : j = g.length := by omega
              have hgr := hI.rus.node
              rw [List.take_of_length_le (by omega)] at hgr
              have hwe := well_any hgr.gr.is
              unfold WellQ at hwe
              rw [hGl] at hwe
              have hm0 := hI.out.cell 0
              simp at hm0
              have hWx : Below wx.heap.size wx wz := hbL.trans (hI.bel.mono hbL.size)
              have hout := hI.out
              have HGR := Lib.hid hgr
              clear hI HI hgr hjn
              obtain ⟨y1, hy1'⟩ : ∃ y, (wellG G).1 = y := ⟨_, rfl⟩
              rw [hy1'] at hwe
              by_cases hw0 : (wellG G).2 = 0
              · rw [hw0] at hwe
                have HWE := Lib.hid hwe
                clear hwe hy1'
                go_wp2_with fail
                refine HWE.out.mono ?_
                rintro e w7 ⟨rfl, hb7⟩
                have hD7 := hWx.trans (hb7.mono hWx.size)
                have hm7 : w7.cell? ⟨nb, 0, none⟩ = some (.slice V g.length c) := (hout.below hb7 hnl).cell 0
                have hn7 := (hout.below hb7 hnl).lt
                have hz7 := hb7.size
                have hg7 := (HGR.out.keep (W' := w7) fun q _ q2 => hb7.block q q2)
                have hS7 := HS.out.below hD7
                obtain ⟨ms, hm1, hm2, hm30⟩ := HS.out.mts
                have hm3 := hm30.below hD7
                have hoq : ∀ a ∈ ms, a.hi ≤ wx.heap.size := fun a ha => (hm30.gr a ha).2.2.1
                have hqo : ∀ q, (Value.slice Vo l co).ownBlock = some q → q < wx.heap.size := fun q hq => (hm30.own.lt q (by rw [hm2]; exact hq)).2
                have HOQ := Lib.hid hoq
                have HQO := Lib.hid hqo
                have hl3 : l ≤ 360 := by
                  have h := HPM.out q
                  rw [← hm1, List.length_map] at h
                  omega
                have hOM := hm3.own.alloc (.cells #[.slice V g.length c] 24)
                rw [hm2] at hOM
                have HOM := Lib.hid hOM
                have HM1 := Lib.hid hm1
                have HM2 := Lib.hid hm2
                have HM3 := Lib.hid (hm3.below ((Below.refl _ w7).alloc (Nat.le_refl _) (.cells #[.slice V g.length c] 24)))
                have HB7 := Lib.hid (hS7.bel.alloc hS7.bel.size (.cells #[.slice V g.length c] 24))
                have HGX := Lib.hid (hS7.gx.alloc (.cells #[.slice V g.length c] 24))
                have HG7 := Lib.hid (hg7.keep (W' := w7.alloc (.cells #[.slice V g.length c] 24)) fun q _ q2 => Below.heap_alloc _ _ _ (by omega))
                have hT7 := Lib.hid (HT5.out.more (hD7.alloc hD7.size (.cells #[.slice V g.length c] 24)))
                have hw7 : w.heap.size + 1 ≤ w7.heap.size := by omega
                have hz75 : wk5.heap.size ≤ w7.heap.size := by have := hD7.size; omega
                clear hOM hm1 hm2 hm3 hm30 hS7 hb7 hg7 hout HGR hoq hqo
                go_wp2_with (at_builtin; refine wpList_append_own_at _ rfl _ _ _ rfl (w.heap.size + 1) 24 i2 _ 1 24 Try.underlying47 hi2 hu0 hu1 hu2 rfl (by decide) _ l (ms.map Mt.val) rfl HOM.out ⟨w7.heap.size, 0, none⟩ 1 1 [.slice V g.length c] rfl rfl (new_cells w7 24 [.slice V g.length c]) (by simp [Value.oneCell']) (by unfold maxLen; omega) (by omega) (by simp; omega) ?_; intro v' w8 hown8 hgr8 _ hat8; obtain ⟨V8, c8, rfl⟩ := own_form hown8)
                have hza : (w7.alloc (.cells #[.slice V g.length c] 24)).heap.size = w7.heap.size + 1 := by simp
                have hpush := HM3.out.push (m := ⟨V, G, c, rows, nb + 1, wz.heap.size⟩) HM2.out ⟨_, _, HG7.out⟩ (by show _ ≤ nb + 1; omega) (by show wz.heap.size ≤ _; omega) (fun q hq hx => by have := HQO.out q hq; simp only at hx; omega)
                  (fun a ha => by have := HOQ.out a ha; show _ ≤ nb + 1; omega) (by have h := hown8; rw [← hGl] at h; exact h) hgr8 hat8
                have hM8 : MucS w (.slice (some ad) g.length cp) (mutFrom g (g.take m) 0 ++ (((X.take (q + 1)).map fun x => putB g m x)).filter (fun m => (wellG m).2 = 0)) (l + 1) V8 c8 w8 := by
                  refine ⟨below_app HB7.out HOM.out hgr8 HB7.out.size (by omega), HGX.out.grown hgr8 (own_ne HOM.out (by omega)), ms ++ [⟨V, G, c, rows, nb + 1, wz.heap.size⟩], ?_, by rw [List.length_append, HM2.out]; rfl, hpush⟩
                  have hsk : (((X.take (q + 1)).map fun x => putB g m x)).filter (fun m => decide ((wellG m).2 = 0)) = (((X.take q).map fun x => putB g m x)).filter (fun m => decide ((wellG m).2 = 0)) ++ [G] := by
                    rw [take_succ_of HX.out, List.map_append, List.filter_append]
                    simp [HGE.out, hw0]
                  rw [hsk, ← List.append_assoc, List.map_append, HM1.out]
                  rfl
                have HQ8 : Hid (McQ2 w wk5 r0 (.slice (some ad) g.length cp) (mutFrom g (g.take m) 0 ++ (((X.take (q + 1)).map fun x => putB g m x)).filter (fun m => (wellG m).2 = 0)) (l + 1) V8 c8 w8) := by
                  refine ⟨hM8, hT7.out.grown' hgr8 HOWN5.out, ?_⟩
                  rcases hat8 with h | h
                  · rw [h]; exact HOWN5.out
                  · exact .inr ⟨_, h, by rw [hza]; omega⟩
                clear hM8 hpush hown8 hgr8 hat8
                go_roundw
                case rel => exact ⟨q + 1, l + 1, V8, c8, by omega, by go_num, rfl, HQ8⟩
                case measure => simp [intOf]; omega
              · have hwb : ((wellG G).2 == 0) = false := by rw [beq_eq_false_iff_ne]; exact hw0
                have HNO := Lib.hid hw0
                have hsk : (((X.take (q + 1)).map fun x => putB g m x)).filter (fun m => decide ((wellG m).2 = 0)) = (((X.take q).map fun x => putB g m x)).filter (fun m => decide ((wellG m).2 = 0)) := by
                  rw [take_succ_of HX.out, List.map_append, List.filter_append]
                  simp [HGE.out, hw0]
                have HSK := Lib.hid hsk
                generalize (wellG G).2 = z at hwb hwe
                have HWE := Lib.hid hwe
                clear hwe hy1' hw0 hsk
                go_wp2_with fail
                refine HWE.out.mono ?_
                rintro e w7 ⟨rfl, hb7⟩
                have hD7 := hWx.trans (hb7.mono hWx.size)
                have HQ8 : Hid (McQ2 w wk5 r0 (.slice (some ad) g.length cp) (mutFrom g (g.take m) 0 ++ (((X.take (q + 1)).map fun x => putB g m x)).filter (fun m => (wellG m).2 = 0)) l Vo co w7) := by
                  refine ⟨?_, HT5.out.more hD7, HOWN5.out⟩
                  rw [HSK.out]
                  exact HS.out.below hD7
                clear hb7 hD7 hout HGR
                go_wp2
                go_roundw
                case rel => exact ⟨q + 1, l, Vo, co, by omega, by go_num, rfl, HQ8⟩
                case measure => simp [intOf]; omega
        · obtain rfl : q = nx := by omega
          have HA2 : Hid (MucS w (.slice (some ad) g.length cp) (mutFrom g (g.take (m + 1)) 0) l Vo co wx) := by
            have h := HA.out.1
            rw [← HNX.out, List.take_length, ← HSN.out] at h
            exact h
          clear HA hS hT5 hown5
          go_wp2
          go_roundw
          case rel => exact ⟨m + 1, l, Vo, co, by omega, by go_num, rfl, HA2⟩
          case measure => simp [intOf]; omega
    · obtain rfl : m = g.length := by omega
      have HF := Lib.hid (HQ.out _ _ _ _ HA.out)
      clear HA HQ HG HALL HCP HK8 HPRE
      go_wp2
      first | exact HF.out | (go_ret2; exact HF.out)
end Go.Proofs.Ytefechceoeeonaa

/- chaffkeep.spoilExpr and spoilGrammar of what was made anew: nothing is other outside its own blocks. Written by genca4.py out of RoB, RoI, RoJ. -/
namespace Go.Proofs.Ytefechceoeeonaa
open Go.RowKit Go.Maps

set_option maxRecDepth 100000 in
set_option maxHeartbeats 4000000 in
theorem spoilE2_any (g n m : Nat) (cs : Array Value) (w : World) (hb : Blk w g 38 cs) (hs : cs.size = m * 7) (hm : m ≤ 9223372036854775807) :
    Calls Try.prog 76 #[.slice (some ⟨g, 0, none⟩) n m, .agg #[.int .i64 77, .int .u64 0, .int .u64 0, .int .u64 0, .int .u64 0, .string ⟨#[]⟩, .slice none 0 0]] w fun e w' => e = .returned (.tuple #[]) ∧ w.grownBy w' (some g) := by
  obtain ⟨i0, hi0, hz0, hz1, hz2⟩ := info_parts expr_info
  have HS := Lib.hid hs
  clear hs
  have hbx : Blk (w.alloc (.cells #[.int .i64 77, .int .u64 0, .int .u64 0, .int .u64 0, .int .u64 0, .string ⟨#[]⟩, .slice none 0 0] 38)) w.heap.size 38 #[.int .i64 77, .int .u64 0, .int .u64 0, .int .u64 0, .int .u64 0, .string ⟨#[]⟩, .slice none 0 0] := blk_at rfl
  have hb0 : Below w.heap.size w (w.alloc (.cells #[.int .i64 77, .int .u64 0, .int .u64 0, .int .u64 0, .int .u64 0, .string ⟨#[]⟩, .slice none 0 0] 38)) := (by repeat (first | exact Below.refl _ _ | assumption | refine Below.drew ?_ | refine below_drewN ?_ _ | refine Below.alloc ?_ (by first | omega | (simp; omega) | simp) _ | refine Below.setCell ?_ (by first | omega | (simp; omega) | simp) _))
  have hgl := hb.lt
  have hb2 := hb.below hb0 hgl
  have hw0 : w.grownBy (w.alloc (.cells #[.int .i64 77, .int .u64 0, .int .u64 0, .int .u64 0, .int .u64 0, .string ⟨#[]⟩, .slice none 0 0] 38)) (some g) := ⟨hb0.os, hb0.tape, hb0.output, hb0.size, fun k hk _ => hb0.block k hk⟩
  clear hb0 hb
  go_enter Try.func76, Try.ntmps76
  go_upto_region 1 with fail
  generalize (w.alloc (.cells #[.int .i64 77, .int .u64 0, .int .u64 0, .int .u64 0, .int .u64 0, .string ⟨#[]⟩, .slice none 0 0] 38)) = w0 at hbx hb2 hw0 ⊢
  generalize hbq : w.heap.size = bx at hbx hgl ⊢
  clear hbq
  go_wp2
  go_loopw [4, 11] (fun _ i wr => ∃ k : Nat, k ≤ m ∧ i = .int .i64 k ∧ (∃ cs, Blk wr g 38 cs ∧ cs.size = m * 7) ∧ Blk wr bx 38 #[.int .i64 77, .int .u64 0, .int .u64 0, .int .u64 0, .int .u64 0, .string ⟨#[]⟩, .slice none 0 0] ∧ w.grownBy wr (some g)) (fun _ i _ => m - (intOf i).toNat)
  case atStart => exact ⟨0, by omega, rfl, ⟨cs, hb2, HS.out⟩, hbx, hw0⟩
  case round =>
    clear hbx hw0 hb2
    obtain ⟨k, hk, rfl, ⟨cs, hblk, hs⟩, hbx, hgw⟩ := hrel
    have HS := Lib.hid hs
    clear hs
    by_cases hkm : k < m
    · have hg : ∀ i, i < 7 → ∃ u0, cs[k * 7 + i]? = some u0 := fun i hi => ⟨_, Array.getElem?_eq_getElem (by rw [HS.out]; omega)⟩
      have r0 := hbx.cell 0
      have r1 := hbx.cell 1
      have r2 := hbx.cell 2
      have r3 := hbx.cell 3
      have r4 := hbx.cell 4
      have r5 := hbx.cell 5
      have r6 := hbx.cell 6
      obtain ⟨o0, g0⟩ := hg 0 (by omega)
      obtain ⟨o1, g1⟩ := hg 1 (by omega)
      obtain ⟨o2, g2⟩ := hg 2 (by omega)
      obtain ⟨o3, g3⟩ := hg 3 (by omega)
      obtain ⟨o4, g4⟩ := hg 4 (by omega)
      obtain ⟨o5, g5⟩ := hg 5 (by omega)
      obtain ⟨o6, g6⟩ := hg 6 (by omega)
      have z0 : wr.cell? ⟨g, k * 7, none⟩ = some o0 := (hblk.cell _).trans g0
      have z1 : wr.cell? ⟨g, k * 7 + 1, none⟩ = some o1 := (hblk.cell _).trans g1
      have z2 : wr.cell? ⟨g, k * 7 + 2, none⟩ = some o2 := (hblk.cell _).trans g2
      have z3 : wr.cell? ⟨g, k * 7 + 3, none⟩ = some o3 := (hblk.cell _).trans g3
      have z4 : wr.cell? ⟨g, k * 7 + 4, none⟩ = some o4 := (hblk.cell _).trans g4
      have z5 : wr.cell? ⟨g, k * 7 + 5, none⟩ = some o5 := (hblk.cell _).trans g5
      have z6 : wr.cell? ⟨g, k * 7 + 6, none⟩ = some o6 := (hblk.cell _).trans g6
      have f0 := hblk.frozen (k * 7)
      have f1 := hblk.frozen (k * 7 + 1)
      have f2 := hblk.frozen (k * 7 + 2)
      have f3 := hblk.frozen (k * 7 + 3)
      have f4 := hblk.frozen (k * 7 + 4)
      have f5 := hblk.frozen (k * 7 + 5)
      have f6 := hblk.frozen (k * 7 + 6)
      clear hg g0 g1 g2 g3 g4 g5 g6
      go_wp2
      go_roundw
      case rel =>
        exact ⟨k + 1, by omega, by go_num, ⟨_, (((((((hblk.set_ (k * 7) _).set_ _ _).set_ _ _).set_ _ _).set_ _ _).set_ _ _).set_ _ _), by simp [HS.out]⟩, (((((((hbx.far (by show bx ≠ g; omega) _).far (by show bx ≠ g; omega) _).far (by show bx ≠ g; omega) _).far (by show bx ≠ g; omega) _).far (by show bx ≠ g; omega) _).far (by show bx ≠ g; omega) _).far (by show bx ≠ g; omega) _), (only_setCellE (only_setCellE (only_setCellE (only_setCellE (only_setCellE (only_setCellE (only_setCellE hgw _) _) _) _) _) _) _)⟩
      case measure => simp [intOf]; omega
    · go_wp2
      go_end0
      exact ⟨rfl, hgw⟩

set_option maxRecDepth 100000 in
set_option maxHeartbeats 4000000 in
theorem spoilR2_any (g n m : Nat) (cs : Array Value) (w : World) (hb : Blk w g 44 cs) (hs : cs.size = m * 8) (hm : m ≤ 9223372036854775807) :
    Calls Try.prog 49 #[.slice (some ⟨g, 0, none⟩) n m, .agg #[.string spoiltN, .int .i64 0, .int .u64 0, .int .u64 0, .int .u64 0, .int .u64 0, .string ⟨#[]⟩, .slice none 0 0]] w fun e w' => e = .returned (.tuple #[]) ∧ w.grownBy w' (some g) := by
  obtain ⟨i0, hi0, hz0, hz1, hz2⟩ := info_parts rule_info
  have HS := Lib.hid hs
  clear hs
  have hbx : Blk (w.alloc (.cells #[.string spoiltN, .int .i64 0, .int .u64 0, .int .u64 0, .int .u64 0, .int .u64 0, .string ⟨#[]⟩, .slice none 0 0] 44)) w.heap.size 44 #[.string spoiltN, .int .i64 0, .int .u64 0, .int .u64 0, .int .u64 0, .int .u64 0, .string ⟨#[]⟩, .slice none 0 0] := blk_at rfl
  have hb0 : Below w.heap.size w (w.alloc (.cells #[.string spoiltN, .int .i64 0, .int .u64 0, .int .u64 0, .int .u64 0, .int .u64 0, .string ⟨#[]⟩, .slice none 0 0] 44)) := (by repeat (first | exact Below.refl _ _ | assumption | refine Below.drew ?_ | refine below_drewN ?_ _ | refine Below.alloc ?_ (by first | omega | (simp; omega) | simp) _ | refine Below.setCell ?_ (by first | omega | (simp; omega) | simp) _))
  have hgl := hb.lt
  have hb2 := hb.below hb0 hgl
  have hw0 : w.grownBy (w.alloc (.cells #[.string spoiltN, .int .i64 0, .int .u64 0, .int .u64 0, .int .u64 0, .int .u64 0, .string ⟨#[]⟩, .slice none 0 0] 44)) (some g) := ⟨hb0.os, hb0.tape, hb0.output, hb0.size, fun k hk _ => hb0.block k hk⟩
  clear hb0 hb
  go_enter Try.func49, Try.ntmps49
  go_upto_region 1 with fail
  generalize (w.alloc (.cells #[.string spoiltN, .int .i64 0, .int .u64 0, .int .u64 0, .int .u64 0, .int .u64 0, .string ⟨#[]⟩, .slice none 0 0] 44)) = w0 at hbx hb2 hw0 ⊢
  generalize hbq : w.heap.size = bx at hbx hgl ⊢
  clear hbq
  go_wp2
  go_loopw [4, 11] (fun _ i wr => ∃ k : Nat, k ≤ m ∧ i = .int .i64 k ∧ (∃ cs, Blk wr g 44 cs ∧ cs.size = m * 8) ∧ Blk wr bx 44 #[.string spoiltN, .int .i64 0, .int .u64 0, .int .u64 0, .int .u64 0, .int .u64 0, .string ⟨#[]⟩, .slice none 0 0] ∧ w.grownBy wr (some g)) (fun _ i _ => m - (intOf i).toNat)
  case atStart => exact ⟨0, by omega, rfl, ⟨cs, hb2, HS.out⟩, hbx, hw0⟩
  case round =>
    clear hbx hw0 hb2
    obtain ⟨k, hk, rfl, ⟨cs, hblk, hs⟩, hbx, hgw⟩ := hrel
    have HS := Lib.hid hs
    clear hs
    by_cases hkm : k < m
    · have hg : ∀ i, i < 8 → ∃ u0, cs[k * 8 + i]? = some u0 := fun i hi => ⟨_, Array.getElem?_eq_getElem (by rw [HS.out]; omega)⟩
      have r0 := hbx.cell 0
      have r1 := hbx.cell 1
      have r2 := hbx.cell 2
      have r3 := hbx.cell 3
      have r4 := hbx.cell 4
      have r5 := hbx.cell 5
      have r6 := hbx.cell 6
      have r7 := hbx.cell 7
      obtain ⟨o0, g0⟩ := hg 0 (by omega)
      obtain ⟨o1, g1⟩ := hg 1 (by omega)
      obtain ⟨o2, g2⟩ := hg 2 (by omega)
      obtain ⟨o3, g3⟩ := hg 3 (by omega)
      obtain ⟨o4, g4⟩ := hg 4 (by omega)
      obtain ⟨o5, g5⟩ := hg 5 (by omega)
      obtain ⟨o6, g6⟩ := hg 6 (by omega)
      obtain ⟨o7, g7⟩ := hg 7 (by omega)
      have z0 : wr.cell? ⟨g, k * 8, none⟩ = some o0 := (hblk.cell _).trans g0
      have z1 : wr.cell? ⟨g, k * 8 + 1, none⟩ = some o1 := (hblk.cell _).trans g1
      have z2 : wr.cell? ⟨g, k * 8 + 2, none⟩ = some o2 := (hblk.cell _).trans g2
      have z3 : wr.cell? ⟨g, k * 8 + 3, none⟩ = some o3 := (hblk.cell _).trans g3
      have z4 : wr.cell? ⟨g, k * 8 + 4, none⟩ = some o4 := (hblk.cell _).trans g4
      have z5 : wr.cell? ⟨g, k * 8 + 5, none⟩ = some o5 := (hblk.cell _).trans g5
      have z6 : wr.cell? ⟨g, k * 8 + 6, none⟩ = some o6 := (hblk.cell _).trans g6
      have z7 : wr.cell? ⟨g, k * 8 + 7, none⟩ = some o7 := (hblk.cell _).trans g7
      have f0 := hblk.frozen (k * 8)
      have f1 := hblk.frozen (k * 8 + 1)
      have f2 := hblk.frozen (k * 8 + 2)
      have f3 := hblk.frozen (k * 8 + 3)
      have f4 := hblk.frozen (k * 8 + 4)
      have f5 := hblk.frozen (k * 8 + 5)
      have f6 := hblk.frozen (k * 8 + 6)
      have f7 := hblk.frozen (k * 8 + 7)
      clear hg g0 g1 g2 g3 g4 g5 g6 g7
      go_wp2
      go_roundw
      case rel =>
        exact ⟨k + 1, by omega, by go_num, ⟨_, ((((((((hblk.set_ (k * 8) _).set_ _ _).set_ _ _).set_ _ _).set_ _ _).set_ _ _).set_ _ _).set_ _ _), by simp [HS.out]⟩, ((((((((hbx.far (by show bx ≠ g; omega) _).far (by show bx ≠ g; omega) _).far (by show bx ≠ g; omega) _).far (by show bx ≠ g; omega) _).far (by show bx ≠ g; omega) _).far (by show bx ≠ g; omega) _).far (by show bx ≠ g; omega) _).far (by show bx ≠ g; omega) _), (only_setCellE (only_setCellE (only_setCellE (only_setCellE (only_setCellE (only_setCellE (only_setCellE (only_setCellE hgw _) _) _) _) _) _) _) _)⟩
      case measure => simp [intOf]; omega
    · go_wp2
      go_end0
      exact ⟨rfl, hgw⟩



set_option maxRecDepth 100000 in
set_option maxHeartbeats 4000000 in
theorem spoilE0 (w : World) :
    Calls Try.prog 76 #[.slice none 0 0, .agg #[.int .i64 77, .int .u64 0, .int .u64 0, .int .u64 0, .int .u64 0, .string ⟨#[]⟩, .slice none 0 0]] w fun e w' => e = .returned (.tuple #[]) ∧ Below w.heap.size w w' := by
  obtain ⟨i0, hi0, hz0, hz1, hz2⟩ := info_parts expr_info
  have hbx : Blk (w.alloc (.cells #[.int .i64 77, .int .u64 0, .int .u64 0, .int .u64 0, .int .u64 0, .string ⟨#[]⟩, .slice none 0 0] 38)) w.heap.size 38 #[.int .i64 77, .int .u64 0, .int .u64 0, .int .u64 0, .int .u64 0, .string ⟨#[]⟩, .slice none 0 0] := blk_at rfl
  have hb0 : Below w.heap.size w (w.alloc (.cells #[.int .i64 77, .int .u64 0, .int .u64 0, .int .u64 0, .int .u64 0, .string ⟨#[]⟩, .slice none 0 0] 38)) := (by repeat (first | exact Below.refl _ _ | assumption | refine Below.drew ?_ | refine below_drewN ?_ _ | refine Below.alloc ?_ (by first | omega | (simp; omega) | simp) _ | refine Below.setCell ?_ (by first | omega | (simp; omega) | simp) _))
  go_enter Try.func76, Try.ntmps76
  go_upto_region 1 with fail
  generalize (w.alloc (.cells #[.int .i64 77, .int .u64 0, .int .u64 0, .int .u64 0, .int .u64 0, .string ⟨#[]⟩, .slice none 0 0] 38)) = w0 at hbx hb0 ⊢
  go_wp2
  go_loopw [4, 11] (fun _ i wr => i = .int .i64 0 ∧ wr = w0) (fun _ i _ => 0)
  case atStart => exact ⟨rfl, rfl⟩
  case round =>
    obtain ⟨rfl, hw0⟩ := hrel
    subst hw0
    go_wp2
    go_end0
    exact ⟨rfl, hb0⟩

set_option maxRecDepth 100000 in
set_option maxHeartbeats 4000000 in
theorem spoilR0 (w : World) :
    Calls Try.prog 49 #[.slice none 0 0, .agg #[.string spoiltN, .int .i64 0, .int .u64 0, .int .u64 0, .int .u64 0, .int .u64 0, .string ⟨#[]⟩, .slice none 0 0]] w fun e w' => e = .returned (.tuple #[]) ∧ Below w.heap.size w w' := by
  obtain ⟨i0, hi0, hz0, hz1, hz2⟩ := info_parts rule_info
  have hbx : Blk (w.alloc (.cells #[.string spoiltN, .int .i64 0, .int .u64 0, .int .u64 0, .int .u64 0, .int .u64 0, .string ⟨#[]⟩, .slice none 0 0] 44)) w.heap.size 44 #[.string spoiltN, .int .i64 0, .int .u64 0, .int .u64 0, .int .u64 0, .int .u64 0, .string ⟨#[]⟩, .slice none 0 0] := blk_at rfl
  have hb0 : Below w.heap.size w (w.alloc (.cells #[.string spoiltN, .int .i64 0, .int .u64 0, .int .u64 0, .int .u64 0, .int .u64 0, .string ⟨#[]⟩, .slice none 0 0] 44)) := (by repeat (first | exact Below.refl _ _ | assumption | refine Below.drew ?_ | refine below_drewN ?_ _ | refine Below.alloc ?_ (by first | omega | (simp; omega) | simp) _ | refine Below.setCell ?_ (by first | omega | (simp; omega) | simp) _))
  go_enter Try.func49, Try.ntmps49
  go_upto_region 1 with fail
  generalize (w.alloc (.cells #[.string spoiltN, .int .i64 0, .int .u64 0, .int .u64 0, .int .u64 0, .int .u64 0, .string ⟨#[]⟩, .slice none 0 0] 44)) = w0 at hbx hb0 ⊢
  go_wp2
  go_loopw [4, 11] (fun _ i wr => i = .int .i64 0 ∧ wr = w0) (fun _ i _ => 0)
  case atStart => exact ⟨rfl, rfl⟩
  case round =>
    obtain ⟨rfl, hw0⟩ := hrel
    subst hw0
    go_wp2
    go_end0
    exact ⟨rfl, hb0⟩
end Go.Proofs.Ytefechceoeeonaa

/- chaffkeep.spoilExpr and spoilGrammar of what was made anew: nothing is other outside its own blocks. Written by genca5.py out of RoI, RoJ. -/
namespace Go.Proofs.Ytefechceoeeonaa
open Go.RowKit Go.Maps

theorem CaE.out {lo hi lo' hi' : Nat} {w w' : World} {e : Ex} {cs : List Value} (h : CaE w lo' hi' e cs) (ho : OutS lo hi w w') (hh : hi' ≤ w.heap.size) (hd : hi' ≤ lo ∨ hi ≤ lo') : CaE w' lo' hi' e cs := h.keep fun b b1 b2 => ho.block b (by omega) (by omega)

set_option maxRecDepth 100000 in
set_option maxHeartbeats 8000000 in
theorem spoilExprC_any (e : Ex) : ∀ (lo hi : Nat) (cs : List Value) (w : World), CaE w lo hi e cs → hi ≤ w.heap.size → Calls Try.prog 48 #[.agg cs.toArray] w (fun r w' => r = .returned (.tuple #[]) ∧ OutS lo hi w w') := by
  refine Ex.ind (P := fun e => ∀ (lo hi : Nat) (cs : List Value) (w : World), CaE w lo hi e cs → hi ≤ w.heap.size → Calls Try.prog 48 #[.agg cs.toArray] w (fun r w' => r = .returned (.tuple #[]) ∧ OutS lo hi w w')) ?_ e
  intro k a b c d t ks ih lo hi cs w hE hhi
  cases hE with
  | mk _ _ _ _ _ _ _ _ _ A cp rows L H ht hn hcm hnil hblk hk hL hO =>
  cases A with
  | none =>
    obtain rfl : cp = 0 := hnil rfl
    obtain rfl : ks = [] := List.length_eq_zero_iff.1 (by omega)
    clear ih hblk hk hL hO hnil hcm hn hhi ht
    unfold exCells
    go_enter Try.func48, Try.ntmps48
    go_upto_region 1 with fail
    have hx : Blk (w.alloc (.cells #[.int .i64 k, .int .u64 a, .int .u64 b, .int .u64 c, .int .u64 d, .string t, .slice none 0 0] 38)) w.heap.size 38 #[.int .i64 k, .int .u64 a, .int .u64 b, .int .u64 c, .int .u64 d, .string t, .slice none 0 0] := blk_at rfl
    have hb0 : Below w.heap.size w (w.alloc (.cells #[.int .i64 k, .int .u64 a, .int .u64 b, .int .u64 c, .int .u64 d, .string t, .slice none 0 0] 38)) := (by repeat (first | exact Below.refl _ _ | assumption | refine Below.drew ?_ | refine below_drewN ?_ _ | refine Below.alloc ?_ (by first | omega | (simp; omega) | simp) _ | refine Below.setCell ?_ (by first | omega | (simp; omega) | simp) _))
    try simp only [List.length_nil]
    generalize (w.alloc (.cells #[.int .i64 k, .int .u64 a, .int .u64 b, .int .u64 c, .int .u64 d, .string t, .slice none 0 0] 38)) = w0 at hx hb0 ⊢
    have n0 := hx.cell 6
    simp at n0
    go_wp2
    go_loopw [7] (fun i wr => i = .int .i64 0 ∧ wr = w0) (fun i _ => 0)
    case atStart => exact ⟨rfl, rfl⟩
    case round =>
      obtain ⟨rfl, hw0⟩ := hrel
      subst hw0
      go_wp2_with fail
      refine (spoilE0 _).mono ?_
      rintro e w2 ⟨rfl, hb2⟩
      have hb3 := OutS.trans (lo := lo) (hi := hi) (OutS.of_below hb0) (OutS.of_below hb2)
      go_wp2
      go_end0
      exact ⟨rfl, hb3⟩
  | some ad =>
  obtain ⟨bk, gs, rfl, h1, h2, hb, hgs, htk, hap⟩ := hblk ad rfl
  have hcs : gs.toList = kdF rows ks.length ++ gs.toList.drop (ks.length * 7) := by rw [← htk, List.take_append_drop]
  have HAP := Lib.hid hap
  unfold maxLen at hcm
  clear hblk hap htk hnil
  have h7 : ∀ i, i < ks.length → (rows i).length = 7 := fun i hi => (hk i _ (List.getElem?_eq_getElem hi)).len7
  have hC : ∀ (j : Nat) (W : World), j < ks.length → (∀ i e, j ≤ i → ks[i]? = some e → CaE W (L i) (H i) e (rows i)) → w.heap.size ≤ W.heap.size →
      ∃ k' a' b' c' d' t' A' n' cp', rows j = [.int .i64 k', .int .u64 a', .int .u64 b', .int .u64 c', .int .u64 d', .string t', .slice A' n' cp'] ∧ ∀ W2, Below W.heap.size W W2 → Calls Try.prog 48 #[.agg #[.int .i64 k', .int .u64 a', .int .u64 b', .int .u64 c', .int .u64 d', .string t', .slice A' n' cp']] W2 (fun r w' => r = .returned (.tuple #[]) ∧ OutS (L j) (H j) W2 w') := by
    intro j W hj hW hWs
    have hr := hW j _ (Nat.le_refl _) (List.getElem?_eq_getElem hj)
    obtain ⟨k', a', b', c', d', t', A', n', cp', he⟩ := caE_parts hr
    refine ⟨k', a', b', c', d', t', A', n', cp', he, fun W2 hW2 => ?_⟩
    have hl := hL j hj
    have := ih _ (List.getElem_mem hj) (L j) (H j) (rows j) W2 (hr.keep fun q _ q2 => hW2.block q (by omega)) (by have := hW2.size; omega)
    rw [he] at this
    exact this
  have HC := Lib.hid hC
  have HL := Lib.hid hL
  have HO := Lib.hid hO
  have H7 := Lib.hid h7
  have HCS := Lib.hid hcs
  have HGS := Lib.hid hgs
  have hK0 : ∀ i e, 0 ≤ i → ks[i]? = some e → CaE (w.alloc (.cells #[.int .i64 k, .int .u64 a, .int .u64 b, .int .u64 c, .int .u64 d, .string t, .slice (some (Addr.mk bk 0 none)) ks.length (cp)] 38)) (L i) (H i) e (rows i) := fun i e _ he => (hk i e he).keep fun q _ q2 => Below.heap_alloc _ _ _ (by have := hL i (getElem?_lt he); omega)
  have HK0 := Lib.hid hK0
  clear ih hC hL hO h7 hcs hgs hk hK0
  unfold exCells
  go_enter Try.func48, Try.ntmps48
  go_wp2
  go_loopw [7] (fun i wr => ∃ j : Nat, j ≤ ks.length ∧ i = .int .i64 j ∧ Blk wr w.heap.size 38 #[.int .i64 k, .int .u64 a, .int .u64 b, .int .u64 c, .int .u64 d, .string t, .slice (some (Addr.mk bk 0 none)) ks.length (cp)] ∧ Blk wr bk 38 gs ∧ OutS lo hi w wr ∧ Hid (∀ i e, j ≤ i → ks[i]? = some e → CaE wr (L i) (H i) e (rows i))) (fun i _ => ks.length - (intOf i).toNat)
  case atStart => exact ⟨0, by omega, rfl, blk_at rfl, hb.alloc _, OutS.of_below (by repeat (first | exact Below.refl _ _ | assumption | refine Below.drew ?_ | refine below_drewN ?_ _ | refine Below.alloc ?_ (by first | omega | (simp; omega) | simp) _ | refine Below.setCell ?_ (by first | omega | (simp; omega) | simp) _)), HK0⟩
  case round =>
    obtain ⟨j, hj, rfl, hx, hbk, hout, HK⟩ := hrel
    clear HK0
    have hzw := hout.size
    by_cases hjn : j < ks.length
    · obtain ⟨k', a', b', c', d', t', A', n', cp', he, hcall⟩ := HC.out j wr hjn HK.out hzw
      have hy := fun u v (hu : (rows j)[u]? = some v) => row_cell H7.out hbk HCS.out hjn hu
      rw [he] at hy
      have y0 := hy 0 _ rfl
      have y1 := hy 1 _ rfl
      have y2 := hy 2 _ rfl
      have y3 := hy 3 _ rfl
      have y4 := hy 4 _ rfl
      have y5 := hy 5 _ rfl
      have y6 := hy 6 _ rfl
      have hjl : (j : Int) < (ks.length : Int) := by omega
      have HCALL := Lib.hid hcall
      clear hy he hcall
      rw [Nat.add_zero] at y0
      go_wp2_with fail
      refine (HCALL.out _ (by repeat (first | exact Below.refl _ _ | assumption | refine Below.drew ?_ | refine below_drewN ?_ _ | refine Below.alloc ?_ (by first | omega | (simp; omega) | simp) _ | refine Below.setCell ?_ (by first | omega | (simp; omega) | simp) _))).mono ?_
      rintro e w2 ⟨rfl, ho2⟩
      have hl := HL.out j hjn
      have hlp := HAP.out j hjn
      have hx2 := ho2.blk (hx.alloc _) (by omega)
      have hbk2 := ho2.blk (hbk.alloc _) (by omega)
      have hout2 := (hout.trans (OutS.of_below (by repeat (first | exact Below.refl _ _ | assumption | refine Below.drew ?_ | refine below_drewN ?_ _ | refine Below.alloc ?_ (by first | omega | (simp; omega) | simp) _ | refine Below.setCell ?_ (by first | omega | (simp; omega) | simp) _)))).trans (ho2.mono hl.1 (by omega))
      have HK2 : Hid (∀ i e, j + 1 ≤ i → ks[i]? = some e → CaE w2 (L i) (H i) e (rows i)) := fun i e hi he =>
        have hz : H i ≤ wr.heap.size := by have := HL.out i (getElem?_lt he); omega
        ((HK.out i e (by omega) he).keep fun q _ q2 => Below.heap_alloc _ _ _ (by omega)).out ho2 (by simp; omega) (.inr (HO.out j i (by omega) (getElem?_lt he)))
      clear hx hbk hout HK hl ho2 HCALL y0 y1 y2 y3 y4 y5 y6
      go_wp2
      go_roundw
      case rel => exact ⟨j + 1, by omega, by go_num, hx2, hbk2, hout2, HK2⟩
      case measure => simp [intOf]; omega
    · obtain rfl : j = ks.length := by omega
      have n0 := hx.cell 6
      go_wp2_with fail
      refine (spoilE2_any bk ks.length cp gs wr hbk HGS.out hcm).mono ?_
      rintro e w2 ⟨rfl, hg2⟩
      have hout2 := hout.trans (OutS.of_grown hg2 h1 h2)
      go_wp2
      go_end0
      exact ⟨rfl, hout2⟩

set_option maxRecDepth 100000 in
set_option maxHeartbeats 8000000 in
theorem spoilGC_any {lo hi cp : Nat} {A : Option Addr} {g : List Rl} {rows : Nat → List Value} {L H : Nat → Nat} {w : World} (hG : CaG w lo hi g A cp rows L H) (hhi : hi ≤ w.heap.size) : Calls Try.prog 16 #[.agg #[.slice A g.length cp]] w (fun r w' => r = .returned (.tuple #[]) ∧ OutS lo hi w w') := by
  have h7 := hG.len7
  have hn := hG.len
  have hcm := hG.cap
  unfold maxLen at hcm
  cases A with
  | none =>
    obtain rfl : cp = 0 := hG.nil rfl
    obtain rfl : g = [] := List.length_eq_zero_iff.1 (by omega)
    clear hG h7 hn hcm hhi
    go_enter Try.func16, Try.ntmps16
    go_upto_region 1 with fail
    have hx : Blk (w.alloc (.cells #[.slice none 0 0] 24)) w.heap.size 24 #[.slice none 0 0] := blk_at rfl
    have hb0 : Below w.heap.size w (w.alloc (.cells #[.slice none 0 0] 24)) := (by repeat (first | exact Below.refl _ _ | assumption | refine Below.drew ?_ | refine below_drewN ?_ _ | refine Below.alloc ?_ (by first | omega | (simp; omega) | simp) _ | refine Below.setCell ?_ (by first | omega | (simp; omega) | simp) _))
    try simp only [List.length_nil]
    generalize (w.alloc (.cells #[.slice none 0 0] 24)) = w0 at hx hb0 ⊢
    have n0 := hx.cell 0
    simp at n0
    go_wp2
    go_loopw [7] (fun i wr => i = .int .i64 0 ∧ wr = w0) (fun i _ => 0)
    case atStart => exact ⟨rfl, rfl⟩
    case round =>
      obtain ⟨rfl, hw0⟩ := hrel
      subst hw0
      go_wp2_with fail
      refine (spoilR0 _).mono ?_
      rintro e w2 ⟨rfl, hb2⟩
      have hb3 := OutS.trans (lo := lo) (hi := hi) (OutS.of_below hb0) (OutS.of_below hb2)
      go_wp2
      go_end0
      exact ⟨rfl, hb3⟩
  | some ad =>
  obtain ⟨bk, gs, rfl, h1, h2, hb, hgs, htk, hap⟩ := hG.blk ad rfl
  have hcs : gs.toList = ruF g rows 0 ++ gs.toList.drop (g.length * 8) := by rw [← htk, List.take_append_drop]
  have HAP := Lib.hid hap
  have hC : ∀ (j : Nat) (W : World), j < g.length → (∀ i e, j ≤ i → g[i]? = some e → CaE W (L i) (H i) e.2 (rows i)) → w.heap.size ≤ W.heap.size →
      ∃ k' a' b' c' d' t' A' n' cp', rows j = [.int .i64 k', .int .u64 a', .int .u64 b', .int .u64 c', .int .u64 d', .string t', .slice A' n' cp'] ∧ ∀ W2, Below W.heap.size W W2 → Calls Try.prog 48 #[.agg #[.int .i64 k', .int .u64 a', .int .u64 b', .int .u64 c', .int .u64 d', .string t', .slice A' n' cp']] W2 (fun r w' => r = .returned (.tuple #[]) ∧ OutS (L j) (H j) W2 w') := by
    intro j W hj hW hWs
    have hr := hW j _ (Nat.le_refl _) (List.getElem?_eq_getElem hj)
    obtain ⟨k', a', b', c', d', t', A', n', cp', he⟩ := caE_parts hr
    refine ⟨k', a', b', c', d', t', A', n', cp', he, fun W2 hW2 => ?_⟩
    have hl := hG.inn j hj
    have := spoilExprC_any _ (L j) (H j) (rows j) W2 (hr.keep fun q _ q2 => hW2.block q (by omega)) (by have := hW2.size; omega)
    rw [he] at this
    exact this
  have HC := Lib.hid hC
  have HL := Lib.hid hG.inn
  have HO := Lib.hid hG.ord
  have H7 := Lib.hid h7
  have HCS := Lib.hid hcs
  have HGS := Lib.hid hgs
  have HK0 : Hid (∀ i e, 0 ≤ i → g[i]? = some e → CaE (w.alloc (.cells #[.slice (some (Addr.mk bk 0 none)) g.length cp] 24)) (L i) (H i) e.2 (rows i)) := fun i e _ he => (hG.body i e he).keep fun q _ q2 => Below.heap_alloc _ _ _ (by have := hG.inn i (getElem?_lt he); omega)
  clear hC h7 hcs hgs hG hap htk
  go_enter Try.func16, Try.ntmps16
  go_wp2
  go_loopw [7] (fun i wr => ∃ j : Nat, j ≤ g.length ∧ i = .int .i64 j ∧ Blk wr w.heap.size 24 #[.slice (some (Addr.mk bk 0 none)) g.length cp] ∧ Blk wr bk 44 gs ∧ OutS lo hi w wr ∧ Hid (∀ i e, j ≤ i → g[i]? = some e → CaE wr (L i) (H i) e.2 (rows i))) (fun i _ => g.length - (intOf i).toNat)
  case atStart => exact ⟨0, by omega, rfl, blk_at rfl, hb.alloc _, OutS.of_below (by repeat (first | exact Below.refl _ _ | assumption | refine Below.drew ?_ | refine below_drewN ?_ _ | refine Below.alloc ?_ (by first | omega | (simp; omega) | simp) _ | refine Below.setCell ?_ (by first | omega | (simp; omega) | simp) _)), HK0⟩
  case round =>
    obtain ⟨j, hj, rfl, hx, hbk, hout, HK⟩ := hrel
    clear HK0
    have hzw := hout.size
    by_cases hjn : j < g.length
    · obtain ⟨k', a', b', c', d', t', A', n', cp', he, hcall⟩ := HC.out j wr hjn HK.out hzw
      obtain ⟨y0, hy⟩ := row_name (j := j) H7.out hbk HCS.out (List.getElem?_eq_getElem hjn)
      rw [he] at hy
      have y1 := hy 0 _ rfl
      have y2 := hy 1 _ rfl
      have y3 := hy 2 _ rfl
      have y4 := hy 3 _ rfl
      have y5 := hy 4 _ rfl
      have y6 := hy 5 _ rfl
      have y7 := hy 6 _ rfl
      have hjl : (j : Int) < (g.length : Int) := by omega
      have HCALL := Lib.hid hcall
      clear hy he hcall
      simp only [Nat.zero_add, Nat.reduceAdd] at y1 y2 y3 y4 y5 y6 y7
      generalize (g[j]'hjn).1 = nm at y0
      go_wp2_with fail
      refine (HCALL.out _ (by repeat (first | exact Below.refl _ _ | assumption | refine Below.drew ?_ | refine below_drewN ?_ _ | refine Below.alloc ?_ (by first | omega | (simp; omega) | simp) _ | refine Below.setCell ?_ (by first | omega | (simp; omega) | simp) _))).mono ?_
      rintro e w2 ⟨rfl, ho2⟩
      have hl := HL.out j hjn
      have hlp := HAP.out j hjn
      have hx2 := ho2.blk (hx.alloc _) (by omega)
      have hbk2 := ho2.blk (hbk.alloc _) (by omega)
      have hout2 := (hout.trans (OutS.of_below (by repeat (first | exact Below.refl _ _ | assumption | refine Below.drew ?_ | refine below_drewN ?_ _ | refine Below.alloc ?_ (by first | omega | (simp; omega) | simp) _ | refine Below.setCell ?_ (by first | omega | (simp; omega) | simp) _)))).trans (ho2.mono hl.1 (by omega))
      have HK2 : Hid (∀ i e, j + 1 ≤ i → g[i]? = some e → CaE w2 (L i) (H i) e.2 (rows i)) := fun i e hi he =>
        have hz : H i ≤ wr.heap.size := by have := HL.out i (getElem?_lt he); omega
        ((HK.out i e (by omega) he).keep fun q _ q2 => Below.heap_alloc _ _ _ (by omega)).out ho2 (by simp; omega) (.inr (HO.out j i (by omega) (getElem?_lt he)))
      clear hx hbk hout HK hl ho2 HCALL y0 y1 y2 y3 y4 y5 y6 y7
      go_wp2
      go_roundw
      case rel => exact ⟨j + 1, by omega, by go_num, hx2, hbk2, hout2, HK2⟩
      case measure => simp [intOf]; omega
    · obtain rfl : j = g.length := by omega
      have n0 := hx.cell 0
      go_wp2_with fail
      refine (spoilR2_any bk g.length cp gs wr hbk HGS.out hcm).mono ?_
      rintro e w2 ⟨rfl, hg2⟩
      have hout2 := hout.trans (OutS.of_grown hg2 h1 h2)
      go_wp2
      go_end0
      exact ⟨rfl, hout2⟩
end Go.Proofs.Ytefechceoeeonaa
