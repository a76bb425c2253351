/- mutate.Mutants: mutants in a row, while they are made. -/
import Derived.Test.YtefechceoeeonaaMA
import Derived.Test.YtefechceoeeonaaKdR
import Derived.Test.YtefechceoeeonaaKdA
namespace Go.Proofs.Ytefechceoeeonaa
open Go.RowKit Go.Maps

theorem k8x_rt {g : List Rl} {e : Ex} (h : Rt g e) : K8x e := by
  induction h with
  | mk k a b c d t ks hf _ _ ih => exact .mk k a b c d t ks (fit_len hf) (fun hk => by
    rcases fit_cases hf with x | x | x | x | x | x | x <;> rcases hk with rfl | rfl <;> simp at x <;> omega) ih
theorem k8_rt' {g : List Rl} {e : Ex} (h : Rt g e) : K8 e := by
  induction h with
  | mk k a b c d t ks hf _ _ ih => exact .mk k a b c d t ks (fit_len hf) ih
theorem mutFrom_app (g : List Rl) : ∀ (l l' : List Rl) (i : Nat), mutFrom g (l ++ l') i = mutFrom g l i ++ mutFrom g l' (i + l.length)
  | [], l', i => by simp [mutFrom]
  | r :: l, l', i => by
    rw [List.cons_append, mutFrom, mutFrom, mutFrom_app g l l' (i + 1), List.append_assoc, List.length_cons, show i + 1 + l.length = i + (l.length + 1) by omega]
theorem mutFrom_snoc {g : List Rl} {m : Nat} {r : Rl} (h : g[m]? = some r) : mutFrom g (g.take (m + 1)) 0 = mutFrom g (g.take m) 0 ++ ((allE r.2).map (fun x => putB g m x)).filter (fun m => (wellG m).2 = 0) := by
  rw [take_succ_of h, mutFrom_app, List.length_take, Nat.min_eq_left (Nat.le_of_lt (getElem?_lt h)), Nat.zero_add]
  simp [mutFrom]
theorem mut_pre {g : List Rl} {m : Nat} {r : Rl} {q : Nat} (h : g[m]? = some r) : (mutFrom g (g.take m) 0 ++ (((allE r.2).take q).map (fun x => putB g m x)).filter (fun m => (wellG m).2 = 0)).length ≤ (mutG g).length := by
  have h1 := mutFrom_snoc h
  have h2 := mutFrom_app g (g.take (m + 1)) (g.drop (m + 1)) 0
  rw [List.take_append_drop, h1] at h2
  have h3 : ((((allE r.2).take q).map (fun x => putB g m x)).filter (fun m => decide ((wellG m).2 = 0))).length ≤ (((allE r.2).map (fun x => putB g m x)).filter (fun m => decide ((wellG m).2 = 0))).length := by
    conv => rhs; rw [← List.take_append_drop q (allE r.2), List.map_append, List.filter_append, List.length_append]
    omega
  unfold mutG
  rw [h2]
  simp only [List.length_append]
  omega
/-- the body of a rule in its box is stored over -/
theorem rule_set7 {W : World} {g : Nat} {t : TypeId} {s u0 u1 u2 u3 u4 u5 u6 : Value} (h : Blk W g t #[s, u0, u1, u2, u3, u4, u5, u6]) (v0 v1 v2 v3 v4 v5 v6 : Value) : Blk (((((((W.setCell ⟨g, 1, none⟩ v0).setCell ⟨g, 2, none⟩ v1).setCell ⟨g, 3, none⟩ v2).setCell ⟨g, 4, none⟩ v3).setCell ⟨g, 5, none⟩ v4).setCell ⟨g, 6, none⟩ v5).setCell ⟨g, 7, none⟩ v6) g t #[s, v0, v1, v2, v3, v4, v5, v6] := by
  have h1 : Blk (W.setCell ⟨g, 1, none⟩ v0) g t #[s, v0, u1, u2, u3, u4, u5, u6] := h.set_ 1 v0
  have h2 : Blk ((W.setCell ⟨g, 1, none⟩ v0).setCell ⟨g, 2, none⟩ v1) g t #[s, v0, v1, u2, u3, u4, u5, u6] := h1.set_ 2 v1
  have h3 : Blk (((W.setCell ⟨g, 1, none⟩ v0).setCell ⟨g, 2, none⟩ v1).setCell ⟨g, 3, none⟩ v2) g t #[s, v0, v1, v2, u3, u4, u5, u6] := h2.set_ 3 v2
  have h4 : Blk ((((W.setCell ⟨g, 1, none⟩ v0).setCell ⟨g, 2, none⟩ v1).setCell ⟨g, 3, none⟩ v2).setCell ⟨g, 4, none⟩ v3) g t #[s, v0, v1, v2, v3, u4, u5, u6] := h3.set_ 4 v3
  have h5 : Blk (((((W.setCell ⟨g, 1, none⟩ v0).setCell ⟨g, 2, none⟩ v1).setCell ⟨g, 3, none⟩ v2).setCell ⟨g, 4, none⟩ v3).setCell ⟨g, 5, none⟩ v4) g t #[s, v0, v1, v2, v3, v4, u5, u6] := h4.set_ 5 v4
  have h6 : Blk ((((((W.setCell ⟨g, 1, none⟩ v0).setCell ⟨g, 2, none⟩ v1).setCell ⟨g, 3, none⟩ v2).setCell ⟨g, 4, none⟩ v3).setCell ⟨g, 5, none⟩ v4).setCell ⟨g, 6, none⟩ v5) g t #[s, v0, v1, v2, v3, v4, v5, u6] := h5.set_ 6 v5
  have h7 : Blk (((((((W.setCell ⟨g, 1, none⟩ v0).setCell ⟨g, 2, none⟩ v1).setCell ⟨g, 3, none⟩ v2).setCell ⟨g, 4, none⟩ v3).setCell ⟨g, 5, none⟩ v4).setCell ⟨g, 6, none⟩ v5).setCell ⟨g, 7, none⟩ v6) g t #[s, v0, v1, v2, v3, v4, v5, v6] := h6.set_ 7 v6
  exact h7
theorem below_set7' {B k : Nat} {w W : World} (h : Below B w W) (hk : B ≤ k) (v0 v1 v2 v3 v4 v5 v6 : Value) : Below B w (((((((W.setCell ⟨k, 1, none⟩ v0).setCell ⟨k, 2, none⟩ v1).setCell ⟨k, 3, none⟩ v2).setCell ⟨k, 4, none⟩ v3).setCell ⟨k, 5, none⟩ v4).setCell ⟨k, 6, none⟩ v5).setCell ⟨k, 7, none⟩ v6) := (((((((h.setCell hk _).setCell hk _).setCell hk _).setCell hk _).setCell hk _).setCell hk _).setCell hk _)
/-- a mutant in memory -/
structure Mt where
  A : Option Addr
  g : List Rl
  cp : Nat
  row : Nat → List Value
  lo : Nat
  hi : Nat
def Mt.val (m : Mt) : Value := .slice m.A m.g.length m.cp
/-- mutants in a row of one's own: each rests on blocks of its own -/
structure Mts (base : Nat) (W : World) (ms : List Mt) (V : Option Addr) (c : Nat) : Prop where
  own : W.ownsRow base 24 1 (.slice V ms.length c) ms.length (ms.map Mt.val)
  gr : ∀ m ∈ ms, GrF (fun b => m.lo ≤ b ∧ b < m.hi) W.heap.size W m.g m.A m.cp m.row ∧ base ≤ m.lo ∧ m.hi ≤ W.heap.size ∧ ∀ q, (Value.slice V ms.length c).ownBlock = some q → ¬ (m.lo ≤ q ∧ q < m.hi)
  apart : ms.Pairwise fun a b => a.hi ≤ b.lo
section
variable {base : Nat} {W W' : World} {ms : List Mt} {V : Option Addr} {c : Nat}
theorem Mts.nil (base : Nat) (W : World) : Mts base W [] none 0 := ⟨World.ownsRow_nil _ _ _ _, fun m h => (by cases h), List.Pairwise.nil⟩
theorem Mts.below (h : Mts base W ms V c) (hb : Below W.heap.size W W') : Mts base W' ms V c :=
  ⟨own_below h.own hb, fun m hm => by
    obtain ⟨h1, h2, h3, h4⟩ := h.gr m hm
    exact ⟨(h1.keep fun p hp => hb.cell (by omega)).mono (fun b hb => hb) hb.size, h2, Nat.le_trans h3 hb.size, h4⟩, h.apart⟩
/-- one mutant more -/
theorem Mts.push {l : Nat} {V' : Option Addr} {c' : Nat} {m : Mt} (hl : ms.length = l) (h : Mts base W ms V c) (hg : GrF (fun b => m.lo ≤ b ∧ b < m.hi) W.heap.size W m.g m.A m.cp m.row) (hlo : base ≤ m.lo) (hhi : m.hi ≤ W.heap.size) (hne : ∀ q, (Value.slice V l c).ownBlock = some q → ¬ (m.lo ≤ q ∧ q < m.hi)) (hold : ∀ a ∈ ms, a.hi ≤ m.lo)
    (hown : W'.ownsRow base 24 1 (.slice V' (l + 1) c') (l + 1) (ms.map Mt.val ++ [m.val])) (hgr : W.grownBy W' (Value.slice V l c).ownBlock) (hat : (Value.slice V' (l + 1) c').ownBlock = (Value.slice V l c).ownBlock ∨ (Value.slice V' (l + 1) c').ownBlock = some W.heap.size) :
    Mts base W' (ms ++ [m]) V' c' := by
  subst hl
  have hl' : (ms ++ [m]).length = ms.length + 1 := by simp
  have hx : ∀ a : Mt, a.hi ≤ W.heap.size → (∀ q, (Value.slice V ms.length c).ownBlock = some q → ¬ (a.lo ≤ q ∧ q < a.hi)) → ∀ q, (Value.slice V' (ms.length + 1) c').ownBlock = some q → ¬ (a.lo ≤ q ∧ q < a.hi) := fun a h1 h2 q hq => by
    rcases hat with h3 | h3
    · rw [h3] at hq; exact h2 q hq
    · rw [h3] at hq; injection hq with hq; omega
  have hk : ∀ a : Mt, a.hi ≤ W.heap.size → (∀ q, (Value.slice V ms.length c).ownBlock = some q → ¬ (a.lo ≤ q ∧ q < a.hi)) → GrF (fun b => a.lo ≤ b ∧ b < a.hi) W.heap.size W a.g a.A a.cp a.row → GrF (fun b => a.lo ≤ b ∧ b < a.hi) W'.heap.size W' a.g a.A a.cp a.row := fun a h1 h2 h3 =>
    (h3.keep (W' := W') fun p hp => World.cell?_of_block (hgr.block p.block (by omega) fun e => h2 _ e.symm hp)).mono (fun b hb => hb) hgr.size
  refine ⟨by rw [hl', List.map_append]; exact hown, fun a ha => ?_, ?_⟩
  · rw [hl']
    rcases List.mem_append.1 ha with ha | ha
    · obtain ⟨h1, h2, h3, h4⟩ := h.gr a ha
      exact ⟨hk a h3 h4 h1, h2, Nat.le_trans h3 hgr.size, hx a h3 h4⟩
    · rw [List.mem_singleton.1 ha]
      exact ⟨hk m hhi hne hg, hlo, Nat.le_trans hhi hgr.size, hx m hhi hne⟩
  · rw [List.pairwise_append]
    exact ⟨h.apart, List.pairwise_singleton _ _, fun a ha b hb => by rw [List.mem_singleton.1 hb]; exact hold a ha⟩
end
/-- what mutate.Mutants answers -/
def MutQ (g : List Rl) (w : World) (e : Ending) (w' : World) : Prop := Below w.heap.size w w' ∧
  (((wellG g).2 ≠ 0 ∧ e = .returned (.tuple #[.slice none 0 0, .int .i64 (wellG g).2])) ∨
   ((wellG g).2 = 0 ∧ ∃ ms V c, e = .returned (.tuple #[.slice V ms.length c, .int .i64 0]) ∧ ms.map Mt.g = mutG g ∧ Mts w.heap.size w' ms V c))
/-- at work: the grammar's box, the mutants so far -/
structure MuS (w : World) (gv : Value) (G : List (List Rl)) (l : Nat) (V : Option Addr) (c : Nat) (W : World) : Prop where
  bel : Below w.heap.size w W
  gx : Blk W w.heap.size 24 #[gv]
  mts : ∃ ms : List Mt, ms.map Mt.g = G ∧ ms.length = l ∧ Mts (w.heap.size + 1) W ms V c
theorem MuS.below {w W W' : World} {gv : Value} {G : List (List Rl)} {l : Nat} {V : Option Addr} {c : Nat} (h : MuS w gv G l V c W) (hb : Below W.heap.size W W') : MuS w gv G l V c W' := by
  obtain ⟨ms, h1, h2, h3⟩ := h.mts
  exact ⟨h.bel.trans (hb.mono h.bel.size), h.gx.below hb h.gx.lt, ms, h1, h2, h3.below hb⟩
/-- a mutant while it is made -/
structure MuI (G : List Rl) (nb : Nat) (wL : World) (V : Option Addr) (c : Nat) (rows : Nat → List Value) (j : Nat) (W : World) : Prop where
  bel : Below wL.heap.size wL W
  nlo : wL.heap.size ≤ nb
  out : Blk W nb 24 #[.slice V j c]
  rus : Rus (nb + 1) W (G.take j) V c rows
section
variable {G : List Rl} {nb : Nat} {wL : World} {V : Option Addr} {c : Nat} {rows : Nat → List Value} {j : Nat} {W W' : World}
theorem MuI.below (h : MuI G nb wL V c rows j W) (hb : Below W.heap.size W W') : MuI G nb wL V c rows j W' := ⟨h.bel.trans (hb.mono h.bel.size), h.nlo, h.out.below hb h.out.lt, h.rus.below hb⟩
theorem MuI.push {V' : Option Addr} {c' lo : Nat} {r : Rl} {rc : List Value} (h : MuI G nb wL V c rows j W) (he : G[j]? = some r) (hlo : nb + 1 ≤ lo) (hold : ∀ q, (Value.slice V j c).ownBlock = some q → q < lo) (hn : r.1.size ≤ maxLen) (hE : ExF (fun b => lo ≤ b ∧ b < W.heap.size) W.heap.size W r.2 rc)
    (hown : W'.ownsRow (nb + 1) 44 8 (.slice V' (j + 1) c') (j + 1) (ruF (G.take j) rows 0 ++ (.string r.1 :: rc))) (hg : W.grownBy W' (Value.slice V j c).ownBlock)
    (hat : (Value.slice V' (j + 1) c').ownBlock = (Value.slice V j c).ownBlock ∨ (Value.slice V' (j + 1) c').ownBlock = some W.heap.size) :
    MuI G nb wL V' c' (fun i => if i = j then rc else rows i) (j + 1) (W'.setCell ⟨nb, 0, none⟩ (.slice V' (j + 1) c')) := by
  have hjl := getElem?_lt he
  have hnl := h.nlo
  have hl : (G.take j).length = j := by simp; omega
  have hne : ∀ b, b < nb + 1 → some b ≠ (Value.slice V j c).ownBlock := fun b hb e => by
    have := h.rus.own.lt b (by rw [hl]; exact e.symm)
    omega
  have hlow : Below wL.heap.size W W' := ⟨hg.os, hg.tape, hg.output, hg.size, fun q hq => hg.block q (by have := h.bel.size; omega) (hne q (by omega))⟩
  have hk := h.rus.push (V' := V') (c' := c') (lo := lo) (r := r) hlo (by rw [hl]; exact hold) hn hE (by rw [hl]; exact hown) (by rw [hl]; exact hg) (by rw [hl]; exact hat)
  rw [hl] at hk
  refine ⟨(h.bel.trans hlow).setCell (by simp; omega) _, hnl, ((h.out.grown hg (hne _ (by omega))).set_ 0 _), ?_⟩
  rw [take_succ_of he]
  exact hk.far (by omega) _ _
end
end Go.Proofs.Ytefechceoeeonaa

/- mutate.Mutants. -/
namespace Go.Proofs.Ytefechceoeeonaa
open Go.RowKit Go.Maps

theorem gram_info' : (Try.prog.info? 24).map (fun i => (i.zero, i.size, i.bytes)) = some (some (.agg #[.slice none 0 0]), 1, 24) := by kernel_rfl
/-- and since the turns of a rule were made nothing else is other -/
def MuQ2 (w w5 : World) (r0 : Option Nat) (gv : Value) (G : List (List Rl)) (l : Nat) (V : Option Addr) (c : Nat) (W : World) : Prop := MuS w gv G l V c W ∧ TwoW w5.heap.size r0 w5 W ∧ ((Value.slice V l c).ownBlock = r0 ∨ ∃ z, (Value.slice V l c).ownBlock = some z ∧ w5.heap.size ≤ z)
theorem nodes_60 {g : List Rl} (R : RightG g) : ∀ r ∈ g, nodes r.2 ≤ 1000 := fun r hr => by
  have h := R.body r hr
  obtain ⟨nm, k, a, b, c, d, t, ks⟩ := r
  have := (parts_ok h).2.2
  rw [nodes]
  omega

set_option maxRecDepth 100000 in
set_option maxHeartbeats 16000000 in
theorem mutants_any {g : List Rl} {A : Option Addr} {cp : Nat} {row : Nat → List Value} {w : World} (h : GrIs w w.heap.size g A cp row) : Calls Try.prog 24 #[.agg #[.slice A g.length cp]] w (MutQ g w) := by
  have hwl := fun W (hW : Below w.heap.size w W) => well_any (h.grow hW)
  unfold WellQ at hwl
  have HWL := Lib.hid hwl
  have hQ1 : (wellG g).2 ≠ 0 → ∀ w', Below w.heap.size w w' → MutQ g w (.returned (.tuple #[.slice none 0 0, .int .i64 (wellG g).2])) w' := fun h0 w' hb => ⟨hb, .inl ⟨h0, rfl⟩⟩
  by_cases h0 : (wellG g).2 = 0
  case neg =>
    have HQ := Lib.hid (hQ1 h0)
    have n0 : ((wellG g).2 != 0) = true := by rw [bne_iff_ne]; exact h0
    generalize MutQ g w = Q at HQ ⊢
    generalize (wellG g).2 = x at HWL HQ n0
    generalize (wellG g).1 = y at HWL
    clear hQ1 hwl h h0
    go_enter Try.func24, Try.ntmps24
    go_wp2_with fail
    refine (HWL.out _ (by repeat (first | exact Below.refl _ _ | assumption | refine Below.drew ?_ | refine below_drewN ?_ _ | refine Below.alloc ?_ (by first | omega | (simp; omega) | simp) _ | refine Below.setCell ?_ (by first | omega | (simp; omega) | simp) _))).mono ?_
    rintro e w1 ⟨rfl, hb1⟩
    have hw1 : Below w.heap.size w w1 := Below.trans (by repeat (first | exact Below.refl _ _ | assumption | refine Below.drew ?_ | refine below_drewN ?_ _ | refine Below.alloc ?_ (by first | omega | (simp; omega) | simp) _ | refine Below.setCell ?_ (by first | omega | (simp; omega) | simp) _)) (hb1.mono (by first | omega | (simp; omega) | simp))
    clear hb1
    go_wp2
    first | exact HQ.out _ hw1 | (go_ret2; exact HQ.out _ hw1)
  have W0 := well_of h0
  have hQ2 : ∀ l V c W, MuS w (.slice A g.length cp) (mutFrom g (g.take g.length) 0) l V c W → MutQ g w (.returned (.tuple #[.slice V l c, .int .i64 0])) W := fun l V c W hM => by
    obtain ⟨ms, h1, h2, h3⟩ := hM.mts
    rw [List.take_length] at h1
    subst h2
    refine ⟨hM.bel, .inr ⟨h0, ms, V, c, rfl, h1, ⟨?_, fun m hm => ?_, h3.apart⟩⟩⟩
    · refine ⟨h3.own.1, ?_⟩
      rcases h3.own.2 with hx | ⟨g', cap, cur, hx1, hx2, hx3⟩
      · exact .inl hx
      · exact .inr ⟨g', cap, cur, hx1, by omega, hx3⟩
    · obtain ⟨a1, a2, a3, a4⟩ := h3.gr m hm
      exact ⟨a1, by omega, a3, a4⟩
  have HQ := Lib.hid hQ2
  rw [h0] at HWL
  have R := W0.right
  have hml : (mutG g).length ≤ 360 := by have h1 := mut_len g; have h2 := R.nodes; omega
  generalize MutQ g w = Q at HQ ⊢
  generalize (wellG g).1 = y at HWL
  have h10 := R.ten
  have hall : ∀ (j : Nat) (nm : ByteArray) (k' a' b' c' d' : Int) (t' : ByteArray) (ks' : List Ex) (A' : Option Addr) (cp' : Nat) (W : World), Below w.heap.size w W → g[j]? = some (nm, .mk k' a' b' c' d' t' ks') → ExIs w w.heap.size (.mk k' a' b' c' d' t' ks') (exCells k' a' b' c' d' t' A' ks'.length cp') →
      Calls Try.prog 58 #[.agg #[.int .i64 k', .int .u64 a', .int .u64 b', .int .u64 c', .int .u64 d', .string t', .slice A' ks'.length cp']] W (OutsQ w.heap.size (allE (.mk k' a' b' c' d' t' ks')) W) := fun j nm k' a' b' c' d' t' ks' A' cp' W hW hej hx =>
    all_any _ (k8x_rt (R.rt _ (List.mem_of_getElem? hej))) (nodes_60 R _ (List.mem_of_getElem? hej)) w.heap.size _ W hW.size (hx.keep (Nat.le_refl _) fun p hp => hW.cell hp)
  have hcp : ∀ (j : Nat) (nm : ByteArray) (k' a' b' c' d' : Int) (t' : ByteArray) (ks' : List Ex) (A' : Option Addr) (cp' : Nat) (W : World), Below w.heap.size w W → g[j]? = some (nm, .mk k' a' b' c' d' t' ks') → ExIs w w.heap.size (.mk k' a' b' c' d' t' ks') (exCells k' a' b' c' d' t' A' ks'.length cp') →
      Calls Try.prog 50 #[.agg #[.int .i64 k', .int .u64 a', .int .u64 b', .int .u64 c', .int .u64 d', .string t', .slice A' ks'.length cp']] W (MadeQ (.mk k' a' b' c' d' t' ks') W) := fun j nm k' a' b' c' d' t' ks' A' cp' W hW hej hx =>
    copy_any _ (k8_rt' (R.rt _ (List.mem_of_getElem? hej))) _ W (hx.grow hW)
  have hk8 : ∀ (m : Nat) (r : Rl), g[m]? = some r → ∀ x ∈ allE r.2, K8 x := fun m r hr => all_k8 r.2 (k8_rt' (R.rt _ (List.mem_of_getElem? hr)))
  have h60 := nodes_60 R
  have H60 := Lib.hid h60
  have hpre := fun (m : Nat) (r : Rl) q (hr : g[m]? = some r) => Nat.le_trans (mut_pre (q := q) hr) hml
  have HALL := Lib.hid hall
  have HCP := Lib.hid hcp
  have HK8 := Lib.hid hk8
  have HPRE := Lib.hid hpre
  have HG := Lib.hid h
  obtain ⟨i1, hi1, hy0, hy1, hy2⟩ := info_parts rule_info
  obtain ⟨i2, hi2, hu0, hu1, hu2⟩ := info_parts gram_info'
  have hgcap := h.cap
  unfold maxLen at hgcap
  clear hQ1 hQ2 hwl h h0 hall hcp hk8 hpre W0 R hml h60
  go_enter Try.func24, Try.ntmps24
  go_wp2_with fail
  refine (HWL.out _ (by repeat (first | exact Below.refl _ _ | assumption | refine Below.drew ?_ | refine below_drewN ?_ _ | refine Below.alloc ?_ (by first | omega | (simp; omega) | simp) _ | refine Below.setCell ?_ (by first | omega | (simp; omega) | simp) _))).mono ?_
  rintro e w1 ⟨rfl, hb1⟩
  have hgx1 : Blk w1 w.heap.size 24 #[.slice A g.length cp] := (blk_at rfl).below hb1 (by first | omega | (simp; omega) | simp)
  have hw1 : Below w.heap.size w w1 := Below.trans (by repeat (first | exact Below.refl _ _ | assumption | refine Below.drew ?_ | refine below_drewN ?_ _ | refine Below.alloc ?_ (by first | omega | (simp; omega) | simp) _ | refine Below.setCell ?_ (by first | omega | (simp; omega) | simp) _)) (hb1.mono (by first | omega | (simp; omega) | simp))
  have HS0 : Hid (MuS w (.slice A g.length cp) (mutFrom g (g.take 0) 0) 0 none 0 w1) := ⟨hw1, hgx1, [], rfl, rfl, Mts.nil _ _⟩
  have g0 := hgx1.cell 0
  simp at g0
  clear hb1 hgx1 hw1
  go_wp2
  clear g0
  go_loopw [6, 27] (fun v i wr => ∃ (m l : Nat) (V : Option Addr) (cv : Nat), m ≤ g.length ∧ i = .int .i64 m ∧ v = .slice V l cv ∧ Hid (MuS w (.slice A g.length cp) (mutFrom g (g.take m) 0) l V cv wr)) (fun _ i _ => g.length - (intOf i).toNat)
  case atStart => exact ⟨0, 0, none, 0, by omega, rfl, rfl, HS0⟩
  case round =>
    clear HS0
    obtain ⟨m, l, V, cv, hm, rfl, rfl, HA⟩ := hrel
    by_cases hmn : m < g.length
    · have hS0 := HA.out
      have hbw := hS0.bel
      have hzw := hbw.size
      obtain ⟨ms0, hms1, hms2, hms3⟩ := hS0.mts
      have hgl0 := hS0.gx.lt
      obtain ⟨ad, nm, k', a', b', c', d', t', ks', A', cp', rfl, hab, hej, hnm, hE, hS⟩ := HG.out.rule hmn
      have hk := fun (q : Addr) (hq : q.block = (ad.add (m * 8)).block) => hbw.cell (p := q) (by rw [hq, add_block]; omega)
      have y0 := (hk _ rfl).trans hS.c0
      have y1 := (hk ⟨_, _, none⟩ rfl).trans hS.c1
      have y2 := (hk ⟨_, _, none⟩ rfl).trans hS.c2
      have y3 := (hk ⟨_, _, none⟩ rfl).trans hS.c3
      have y4 := (hk ⟨_, _, none⟩ rfl).trans hS.c4
      have y5 := (hk ⟨_, _, none⟩ rfl).trans hS.c5
      have y6 := (hk ⟨_, _, none⟩ rfl).trans hS.c6
      have y7 := (hk ⟨_, _, none⟩ rfl).trans hS.c7
      have had1 : ad.block < wr.heap.size := by omega
      have hjl : (m : Int) < (g.length : Int) := by omega
      have hba := hbw.alloc hzw (.cells #[.string nm, .int .i64 k', .int .u64 a', .int .u64 b', .int .u64 c', .int .u64 d', .string t', .slice A' ks'.length cp'] 44)
      have hSa := hS0.below ((Below.refl _ wr).alloc (Nat.le_refl _) (.cells #[.string nm, .int .i64 k', .int .u64 a', .int .u64 b', .int .u64 c', .int .u64 d', .string t', .slice A' ks'.length cp'] 44))
      have hkb : Blk (wr.alloc (.cells #[.string nm, .int .i64 k', .int .u64 a', .int .u64 b', .int .u64 c', .int .u64 d', .string t', .slice A' ks'.length cp'] 44)) wr.heap.size 44 #[.string nm, .int .i64 k', .int .u64 a', .int .u64 b', .int .u64 c', .int .u64 d', .string t', .slice A' ks'.length cp'] := blk_at rfl
      have hsz : (wr.alloc (.cells #[.string nm, .int .i64 k', .int .u64 a', .int .u64 b', .int .u64 c', .int .u64 d', .string t', .slice A' ks'.length cp'] 44)).heap.size = wr.heap.size + 1 := by simp
      have hcl := HALL.out m nm k' a' b' c' d' t' ks' A' cp' _ hba hej hE
      have hown0 : ∀ q, (Value.slice V l cv).ownBlock = some q → w.heap.size + 1 ≤ q ∧ q < wr.heap.size := fun q hq => by
        have h := hms3.own.lt q (by rw [hms2]; exact hq)
        exact ⟨h.1, h.2⟩
      have hk8m := HK8.out m _ hej
      have hpm := fun q => HPRE.out m _ q hej
      have hsn := mutFrom_snoc hej
      have hX3 : (allE (.mk k' a' b' c' d' t' ks')).length ≤ 3000 := by
        have e1 := all_len (.mk k' a' b' c' d' t' ks')
        have e2 := H60.out _ (List.mem_of_getElem? hej)
        simp only at e2
        omega
      obtain ⟨X, hX⟩ : ∃ X, allE (.mk k' a' b' c' d' t' ks') = X := ⟨_, rfl⟩
      simp only [hX] at hcl hk8m hpm hsn hX3
      have HCL := Lib.hid hcl
      have HK8M := Lib.hid hk8m
      have HPM := Lib.hid hpm
      have HSN := Lib.hid hsn
      have HSA := Lib.hid hSa
      have HOWN0 := Lib.hid hown0
      have HRM : Hid (g[m]? = some (nm, .mk k' a' b' c' d' t' ks')) := hej
      have hwk0 : w.heap.size + 1 ≤ wr.heap.size := by omega
      clear hcl hk8m hpm hsn hS hE hej hnm hX hk hSa hS0 HA hown0 hms1 hms2 hms3 HALL HK8 HPRE
      go_upto_region 8 with fail
      clear y0 y1 y2 y3 y4 y5 y6 y7
      generalize (wr.alloc (.cells #[.string nm, .int .i64 k', .int .u64 a', .int .u64 b', .int .u64 c', .int .u64 d', .string t', .slice A' ks'.length cp'] 44)) = wk at hba HSA hkb hsz HCL ⊢
      have y1 := hkb.cell 1
      have y2 := hkb.cell 2
      have y3 := hkb.cell 3
      have y4 := hkb.cell 4
      have y5 := hkb.cell 5
      have y6 := hkb.cell 6
      have y7 := hkb.cell 7
      simp at y1 y2 y3 y4 y5 y6 y7
      go_wp2_with fail
      refine HCL.out.mono ?_
      rintro e w5 ⟨hb5, Vx, cx, rx, rfl, hOX⟩
      obtain ⟨r0, hr0⟩ : ∃ r0, (Value.slice V l cv).ownBlock = r0 := ⟨_, rfl⟩
      have hAQ : MuQ2 w w5 r0 (.slice (some ad) g.length cp) (mutFrom g (g.take m) 0 ++ (((X.take 0).map fun x => putB g m x)).filter (fun m => (wellG m).2 = 0)) l V cv w5 := by
        refine ⟨?_, TwoW.of_below (Below.refl _ _), .inl hr0⟩
        have h := HSA.out.below hb5
        simpa using h
      have hold2 : ∀ q, r0 = some q → w.heap.size + 1 ≤ q ∧ q < wk.heap.size := fun q hq => by
        have h := HOWN0.out q (by rw [hr0]; exact hq)
        exact ⟨h.1, by omega⟩
      have hz5 := hb5.size
      have HAQ := Lib.hid hAQ
      have HOX := Lib.hid hOX
      have HOLD2 := Lib.hid hold2
      have hwk : w.heap.size + 1 ≤ wk.heap.size := by omega
      clear hAQ hOX hold2 hr0 hb5 hkb y1 y2 y3 y4 y5 y6 y7 HCL HSA HOWN0
      obtain ⟨nx, hnx⟩ : ∃ nx, X.length = nx := ⟨_, rfl⟩
      rw [hnx] at hX3 ⊢
      have HNX := Lib.hid hnx
      clear hnx
      rename World => wk5
      go_wp2
      go_loopw [6, 36] (fun v i wx => ∃ (q l : Nat) (V : Option Addr) (cv : Nat), q ≤ nx ∧ i = .int .i64 q ∧ v = .slice V l cv ∧ Hid (MuQ2 w wk5 r0 (.slice (some ad) g.length cp) (mutFrom g (g.take m) 0 ++ (((X.take q).map fun x => putB g m x)).filter (fun m => (wellG m).2 = 0)) l V cv wx)) (fun _ i _ => nx - (intOf i).toNat)
      case atStart => exact ⟨0, _, _, _, by omega, rfl, rfl, HAQ⟩
      case round =>
        clear HAQ
        obtain ⟨q, l, Vo, co, hq, rfl, rfl, HA⟩ := hrel
        obtain ⟨wx, hwx⟩ : ∃ wx, wx = wr := ⟨_, rfl⟩
        subst hwx
        obtain ⟨hS, hT5, hown5⟩ := HA.out
        have hbx := hS.bel
        have hzx := hbx.size
        have hz5x := hT5.size
        by_cases hqn : q < nx
        · have hqi : (q : Int) < (nx : Int) := by omega
          have hXl : q < X.length := by rw [HNX.out]; exact hqn
          obtain ⟨x, hx⟩ : ∃ x, X[q]? = some x := ⟨_, List.getElem?_eq_getElem hXl⟩
          have hownX := HOX.out.own
          rw [HNX.out] at hownX
          obtain ⟨gx, curx, hVx, hgx1, hgx2, hgx3, hgx4, hgx5, hgx6⟩ := own_some hownX (by omega)
          subst hVx
          have hgxl := hgx2.lt
          have hkx := HOX.out.kid q x hx
          obtain ⟨k3, a3, b3, c3, d3, t3, A3, ln3, cp3, hr3⟩ := Ex.parts x hkx.is
          have hgr0 : some gx ≠ r0 := fun e => by have := HOLD2.out gx e.symm; omega
          have hxc : ∀ i v, i < 7 → (rx q)[i]? = some v → wx.cell? ⟨gx, q * 7 + i, none⟩ = some v := fun i v hi hv => by
            rw [World.cell?_of_block (hT5.block gx hgxl (by omega) hgr0), hgx2.cell, ← Array.getElem?_toList, ← hv, ← at_kdF (fun i hi => HOX.out.len7 i (by rw [HNX.out]; exact hi)) hqn hi, ← hgx6, List.getElem?_take_of_lt (by omega)]
          have y0 : wx.cell? ⟨gx, q * 7, none⟩ = some (.int .i64 k3) := hxc 0 _ (by omega) (by rw [hr3]; rfl)
          have y1 : wx.cell? ⟨gx, q * 7 + 1, none⟩ = some (.int .u64 a3) := hxc 1 _ (by omega) (by rw [hr3]; rfl)
          have y2 : wx.cell? ⟨gx, q * 7 + 2, none⟩ = some (.int .u64 b3) := hxc 2 _ (by omega) (by rw [hr3]; rfl)
          have y3 : wx.cell? ⟨gx, q * 7 + 3, none⟩ = some (.int .u64 c3) := hxc 3 _ (by omega) (by rw [hr3]; rfl)
          have y4 : wx.cell? ⟨gx, q * 7 + 4, none⟩ = some (.int .u64 d3) := hxc 4 _ (by omega) (by rw [hr3]; rfl)
          have y5 : wx.cell? ⟨gx, q * 7 + 5, none⟩ = some (.string t3) := hxc 5 _ (by omega) (by rw [hr3]; rfl)
          have y6 : wx.cell? ⟨gx, q * 7 + 6, none⟩ = some (.slice A3 ln3 cp3) := hxc 6 _ (by omega) (by rw [hr3]; rfl)
          have hgxx : gx < wx.heap.size := by omega
          have hxK8 := HK8M.out x (List.mem_of_getElem? hx)
          rw [hr3] at hkx
          have HKX := Lib.hid hkx
          have HX := Lib.hid hx
          have HS := Lib.hid hS
          have HT5 := Lib.hid hT5
          have HOWN5 := Lib.hid hown5
          have HX8 := Lib.hid hxK8
          have g0 : ((wx.alloc (.cells #[.int .i64 k3, .int .u64 a3, .int .u64 b3, .int .u64 c3, .int .u64 d3, .string t3, .slice A3 ln3 cp3] 38)).alloc (.cells #[.slice none 0 0] 24)).cell? ⟨w.heap.size, 0, none⟩ = some (.slice (some ad) g.length cp) := ((hS.gx.alloc _).alloc _).cell 0
          obtain ⟨xbx, hxbx⟩ : ∃ xbx, wx.heap.size = xbx := ⟨_, rfl⟩
          have hxL : Blk (wx.alloc (.cells #[.int .i64 k3, .int .u64 a3, .int .u64 b3, .int .u64 c3, .int .u64 d3, .string t3, .slice A3 ln3 cp3] 38)) xbx 38 #[.int .i64 k3, .int .u64 a3, .int .u64 b3, .int .u64 c3, .int .u64 d3, .string t3, .slice A3 ln3 cp3] := blk_at hxbx.symm
          have hbL : Below wx.heap.size wx (wx.alloc (.cells #[.int .i64 k3, .int .u64 a3, .int .u64 b3, .int .u64 c3, .int .u64 d3, .string t3, .slice A3 ln3 cp3] 38)) := (Below.refl _ wx).alloc (Nat.le_refl _) _
          have hsL : (wx.alloc (.cells #[.int .i64 k3, .int .u64 a3, .int .u64 b3, .int .u64 c3, .int .u64 d3, .string t3, .slice A3 ln3 cp3] 38)).heap.size = xbx + 1 := by simp [hxbx]
          have hmb : Blk ((wx.alloc (.cells #[.int .i64 k3, .int .u64 a3, .int .u64 b3, .int .u64 c3, .int .u64 d3, .string t3, .slice A3 ln3 cp3] 38)).alloc (.cells #[.slice none 0 0] 24)) (xbx + 1) 24 #[.slice none 0 0] := blk_at hsL.symm
          have hbM : Below (wx.alloc (.cells #[.int .i64 k3, .int .u64 a3, .int .u64 b3, .int .u64 c3, .int .u64 d3, .string t3, .slice A3 ln3 cp3] 38)).heap.size (wx.alloc (.cells #[.int .i64 k3, .int .u64 a3, .int .u64 b3, .int .u64 c3, .int .u64 d3, .string t3, .slice A3 ln3 cp3] 38)) ((wx.alloc (.cells #[.int .i64 k3, .int .u64 a3, .int .u64 b3, .int .u64 c3, .int .u64 d3, .string t3, .slice A3 ln3 cp3] 38)).alloc (.cells #[.slice none 0 0] 24)) := (Below.refl _ _).alloc (Nat.le_refl _) _
          clear hkx hr3 hx hS hT5 hown5 hxc hgx2 hgx6 hownX HA hgr0 hxK8
          go_upto_region 12 with fail
          try rw [hxbx]
          clear y0 y1 y2 y3 y4 y5 y6
          generalize (wx.alloc (.cells #[.int .i64 k3, .int .u64 a3, .int .u64 b3, .int .u64 c3, .int .u64 d3, .string t3, .slice A3 ln3 cp3] 38)) = wL at hxL hbL hsL hmb hbM g0 ⊢
          generalize (wL.alloc (.cells #[.slice none 0 0] 24)) = wM at hmb hbM g0 ⊢
          obtain ⟨nb, hnb⟩ : ∃ nb, xbx + 1 = nb := ⟨_, rfl⟩
          try rw [hnb]
          rw [hnb] at hmb hsL
          have hI0 : MuI (putB g m x) nb wL none 0 (fun _ => []) 0 wM := ⟨hbM, by omega, hmb, Rus.nil _ _⟩
          have HI0 := Lib.hid hI0
          clear hI0 hmb hbM
          obtain ⟨G, hG⟩ : ∃ G, putB g m x = G := ⟨_, rfl⟩
          have hGl : G.length = g.length := by rw [← hG]; exact putB_len _ _ _
          have hGat : ∀ (kk : Nat) (r : Rl), g[kk]? = some r → G[kk]? = some (r.1, if kk = m then x else r.2) := fun kk r hr => by rw [← hG, putB_at, hr]; rfl
          rw [hG] at HI0
          have HGE := Lib.hid hG
          have HGAT := Lib.hid hGat
          have hbwL : Below w.heap.size w wL := hbx.trans (hbL.mono hzx)
          have hzwL := hbwL.size
          have hxLl := hxL.lt
          have hxw : w.heap.size ≤ wx.heap.size := hzx
          clear hG hGat
          go_wp2
          clear g0
          go_loopw [44] (fun i wz => ∃ (j : Nat) (V : Option Addr) (c : Nat) (rows : Nat → List Value), j ≤ g.length ∧ i = .int .i64 j ∧ Hid (MuI G nb wL V c rows j wz)) (fun i _ => g.length - (intOf i).toNat)
          case atStart => exact ⟨0, none, 0, _, by omega, rfl, HI0⟩
          case round =>
            clear HI0
            obtain ⟨j, V, c, rows, hj, rfl, HI⟩ := hrel
            obtain ⟨wz, hwz⟩ : ∃ wz, wz = wr := ⟨_, rfl⟩
            subst hwz
            have hI := HI.out
            have hbz : Below w.heap.size w wz := hbwL.trans (hI.bel.mono hzwL)
            have hzz := hbz.size
            have hzLz := hI.bel.size
            have hnl := hI.out.lt
            by_cases hjn : j < g.length
            · obtain ⟨ad2, nm2, k2, a2, b2, c2, d2, t2, ks2, A2, cp2, hA2, hab2, hej2, hnm2, hE2, hS2⟩ := HG.out.rule hjn
              injection hA2 with hA2
              subst hA2
              have hk := fun (q : Addr) (hq : q.block = (ad.add (j * 8)).block) => hbz.cell (p := q) (by rw [hq, add_block]; omega)
              have y0 := (hk _ rfl).trans hS2.c0
              have y1 := (hk ⟨_, _, none⟩ rfl).trans hS2.c1
              have y2 := (hk ⟨_, _, none⟩ rfl).trans hS2.c2
              have y3 := (hk ⟨_, _, none⟩ rfl).trans hS2.c3
              have y4 := (hk ⟨_, _, none⟩ rfl).trans hS2.c4
              have y5 := (hk ⟨_, _, none⟩ rfl).trans hS2.c5
              have y6 := (hk ⟨_, _, none⟩ rfl).trans hS2.c6
              have y7 := (hk ⟨_, _, none⟩ rfl).trans hS2.c7
              have had1 : ad.block < wz.heap.size := by omega
              have hjl : (j : Int) < (g.length : Int) := by omega
              have hll : (G.take j).length = j := by simp; omega
              have hold : ∀ q, (Value.slice V j c).ownBlock = some q → q < wz.heap.size := fun q hq => hI.rus.old q (by rw [hll]; exact hq)
              have hkne : some wz.heap.size ≠ (Value.slice V j c).ownBlock := fun e => by have := hold _ e.symm; omega
              have hone : some nb ≠ (Value.slice V j c).ownBlock := fun e => by have h1 := hI.rus.own.lt nb (by rw [hll]; exact e.symm); omega
              have HNM := Lib.hid hnm2
              have hgj := HGAT.out j _ hej2
              have hWx : Below wx.heap.size wx wz := hbL.trans (hI.bel.mono hbL.size)
              have hyb : Blk (wz.alloc (.cells #[.string nm2, .int .i64 k2, .int .u64 a2, .int .u64 b2, .int .u64 c2, .int .u64 d2, .string t2, .slice A2 ks2.length cp2] 44)) wz.heap.size 44 #[.string nm2, .int .i64 k2, .int .u64 a2, .int .u64 b2, .int .u64 c2, .int .u64 d2, .string t2, .slice A2 ks2.length cp2] := blk_at rfl
              have hby0 : Below wz.heap.size wz (wz.alloc (.cells #[.string nm2, .int .i64 k2, .int .u64 a2, .int .u64 b2, .int .u64 c2, .int .u64 d2, .string t2, .slice A2 ks2.length cp2] 44)) := (Below.refl _ wz).alloc (Nat.le_refl _) _
              have hxz : Blk (wz.alloc (.cells #[.string nm2, .int .i64 k2, .int .u64 a2, .int .u64 b2, .int .u64 c2, .int .u64 d2, .string t2, .slice A2 ks2.length cp2] 44)) xbx 38 #[.int .i64 k3, .int .u64 a3, .int .u64 b3, .int .u64 c3, .int .u64 d3, .string t3, .slice A3 ln3 cp3] := (hxL.below hI.bel hxL.lt).alloc _
              clear hk
              go_upto_region 15 with fail
              clear y0 y1 y2 y3 y4 y5 y6 y7
              generalize (wz.alloc (.cells #[.string nm2, .int .i64 k2, .int .u64 a2, .int .u64 b2, .int .u64 c2, .int .u64 d2, .string t2, .slice A2 ks2.length cp2] 44)) = wy at hyb hby0 hxz ⊢
              by_cases hjm : j = m
              · have hjmi : ((j : Int) == (m : Int)) = true := by rw [beq_iff_eq]; omega
                rw [if_pos hjm] at hgj
                have HEJ : Hid (G[j]? = some (nm2, x)) := hgj
                clear hjm
                have hxlz : xbx < wz.heap.size := by omega
                have x0 : wy.cell? ⟨xbx, 0, none⟩ = some (.int .i64 k3) := hxz.cell 0
                have x1 : wy.cell? ⟨xbx, 1, none⟩ = some (.int .u64 a3) := hxz.cell 1
                have x2 : wy.cell? ⟨xbx, 2, none⟩ = some (.int .u64 b3) := hxz.cell 2
                have x3 : wy.cell? ⟨xbx, 3, none⟩ = some (.int .u64 c3) := hxz.cell 3
                have x4 : wy.cell? ⟨xbx, 4, none⟩ = some (.int .u64 d3) := hxz.cell 4
                have x5 : wy.cell? ⟨xbx, 5, none⟩ = some (.string t3) := hxz.cell 5
                have x6 : wy.cell? ⟨xbx, 6, none⟩ = some (.slice A3 ln3 cp3) := hxz.cell 6
                have z1 : wy.cell? ⟨wz.heap.size, 1, none⟩ = some (.int .i64 k2) := hyb.cell 1
                have z2 : wy.cell? ⟨wz.heap.size, 2, none⟩ = some (.int .u64 a2) := hyb.cell 2
                have z3 : wy.cell? ⟨wz.heap.size, 3, none⟩ = some (.int .u64 b2) := hyb.cell 3
                have z4 : wy.cell? ⟨wz.heap.size, 4, none⟩ = some (.int .u64 c2) := hyb.cell 4
                have z5 : wy.cell? ⟨wz.heap.size, 5, none⟩ = some (.int .u64 d2) := hyb.cell 5
                have z6 : wy.cell? ⟨wz.heap.size, 6, none⟩ = some (.string t2) := hyb.cell 6
                have z7 : wy.cell? ⟨wz.heap.size, 7, none⟩ = some (.slice A2 ks2.length cp2) := hyb.cell 7
                have f1 := hyb.frozen 1
                have f2 := hyb.frozen 2
                have f3 := hyb.frozen 3
                have f4 := hyb.frozen 4
                have f5 := hyb.frozen 5
                have f6 := hyb.frozen 6
                have f7 := hyb.frozen 7
                have hyb2 : Blk (((((((wy.setCell ⟨wz.heap.size, 1, none⟩ (.int .i64 k3)).setCell ⟨wz.heap.size, 2, none⟩ (.int .u64 a3)).setCell ⟨wz.heap.size, 3, none⟩ (.int .u64 b3)).setCell ⟨wz.heap.size, 4, none⟩ (.int .u64 c3)).setCell ⟨wz.heap.size, 5, none⟩ (.int .u64 d3)).setCell ⟨wz.heap.size, 6, none⟩ (.string t3)).setCell ⟨wz.heap.size, 7, none⟩ (.slice A3 ln3 cp3)) wz.heap.size 44 #[.string nm2, .int .i64 k3, .int .u64 a3, .int .u64 b3, .int .u64 c3, .int .u64 d3, .string t3, .slice A3 ln3 cp3] := rule_set7 hyb (.int .i64 k3) (.int .u64 a3) (.int .u64 b3) (.int .u64 c3) (.int .u64 d3) (.string t3) (.slice A3 ln3 cp3)
                have hby : Below wz.heap.size wz (((((((wy.setCell ⟨wz.heap.size, 1, none⟩ (.int .i64 k3)).setCell ⟨wz.heap.size, 2, none⟩ (.int .u64 a3)).setCell ⟨wz.heap.size, 3, none⟩ (.int .u64 b3)).setCell ⟨wz.heap.size, 4, none⟩ (.int .u64 c3)).setCell ⟨wz.heap.size, 5, none⟩ (.int .u64 d3)).setCell ⟨wz.heap.size, 6, none⟩ (.string t3)).setCell ⟨wz.heap.size, 7, none⟩ (.slice A3 ln3 cp3)) := below_set7' hby0 (Nat.le_refl _) (.int .i64 k3) (.int .u64 a3) (.int .u64 b3) (.int .u64 c3) (.int .u64 d3) (.string t3) (.slice A3 ln3 cp3)
                have hI1 := hI.below hby
                have hC0 : RuC nb wz.heap.size #[.slice V j c] #[.string nm2, .int .i64 k3, .int .u64 a3, .int .u64 b3, .int .u64 c3, .int .u64 d3, .string t3, .slice A3 ln3 cp3] (((((((wy.setCell ⟨wz.heap.size, 1, none⟩ (.int .i64 k3)).setCell ⟨wz.heap.size, 2, none⟩ (.int .u64 a3)).setCell ⟨wz.heap.size, 3, none⟩ (.int .u64 b3)).setCell ⟨wz.heap.size, 4, none⟩ (.int .u64 c3)).setCell ⟨wz.heap.size, 5, none⟩ (.int .u64 d3)).setCell ⟨wz.heap.size, 6, none⟩ (.string t3)).setCell ⟨wz.heap.size, 7, none⟩ (.slice A3 ln3 cp3)) := ⟨hI.out.below hby hI.out.lt, hyb2⟩
                have hWx1 := hWx.trans (hby.mono hWx.size)
                have hbase1 : nb + 1 ≤ (((((((wy.setCell ⟨wz.heap.size, 1, none⟩ (.int .i64 k3)).setCell ⟨wz.heap.size, 2, none⟩ (.int .u64 a3)).setCell ⟨wz.heap.size, 3, none⟩ (.int .u64 b3)).setCell ⟨wz.heap.size, 4, none⟩ (.int .u64 c3)).setCell ⟨wz.heap.size, 5, none⟩ (.int .u64 d3)).setCell ⟨wz.heap.size, 6, none⟩ (.string t3)).setCell ⟨wz.heap.size, 7, none⟩ (.slice A3 ln3 cp3)).heap.size := by have := hby.size; omega
                have hold1 : ∀ q, (Value.slice V j c).ownBlock = some q → q < (((((((wy.setCell ⟨wz.heap.size, 1, none⟩ (.int .i64 k3)).setCell ⟨wz.heap.size, 2, none⟩ (.int .u64 a3)).setCell ⟨wz.heap.size, 3, none⟩ (.int .u64 b3)).setCell ⟨wz.heap.size, 4, none⟩ (.int .u64 c3)).setCell ⟨wz.heap.size, 5, none⟩ (.int .u64 d3)).setCell ⟨wz.heap.size, 6, none⟩ (.string t3)).setCell ⟨wz.heap.size, 7, none⟩ (.slice A3 ln3 cp3)).heap.size := fun q hq => by have := hold q hq; have := hby.size; omega
                have HI1 := Lib.hid hI1
                have HC0 := Lib.hid hC0
                have HWX1 := Lib.hid hWx1
                have HBA1 := Lib.hid hbase1
                have HOL1 := Lib.hid hold1
                clear hby hyb2 hI1 hC0 hWx1 hbase1 hold1
                go_upto_region 17 with fail
                clear x0 x1 x2 x3 x4 x5 x6 z1 z2 z3 z4 z5 z6 z7 f1 f2 f3 f4 f5 f6 f7 hxz hyb
                generalize (((((((wy.setCell ⟨wz.heap.size, 1, none⟩ (.int .i64 k3)).setCell ⟨wz.heap.size, 2, none⟩ (.int .u64 a3)).setCell ⟨wz.heap.size, 3, none⟩ (.int .u64 b3)).setCell ⟨wz.heap.size, 4, none⟩ (.int .u64 c3)).setCell ⟨wz.heap.size, 5, none⟩ (.int .u64 d3)).setCell ⟨wz.heap.size, 6, none⟩ (.string t3)).setCell ⟨wz.heap.size, 7, none⟩ (.slice A3 ln3 cp3)) = w11 at HI1 HC0 HWX1 HBA1 HOL1 ⊢
                have hI1 := HI1.out
                have hC0 := HC0.out
                have hWx1 := HWX1.out
                have hbase1 := HBA1.out
                have hold1 := HOL1.out
                clear HI1 HC0 HWX1 HBA1 HOL1
                generalize wz.heap.size = kb at hC0 hkne ⊢
                have hc1 : ∀ W, Below w11.heap.size w11 W → Calls Try.prog 50 #[.agg #[.int .i64 k3, .int .u64 a3, .int .u64 b3, .int .u64 c3, .int .u64 d3, .string t3, .slice A3 ln3 cp3]] W (MadeQ x W) := fun W hW => by
                  have hx2 := hWx1.trans (hW.mono hWx1.size)
                  refine copy_any x HX8.out _ W ?_
                  refine ExIs.keep ((HKX.out.keep (W' := W) fun p hp => World.cell?_of_block ((HT5.out.more hx2).block p.block hp.1 (by have := hp.1; omega) fun e => ?_).symm.symm).is) (by have := hx2.size; omega) fun p _ => rfl
                  have h := HOLD2.out p.block e.symm
                  exact hp.2.1 ⟨by omega, h.2⟩
                have HC1 := Lib.hid hc1
                clear hc1 hWx1 hI HI hold hE2 hej2 hgj hnm2 hS2 had1
                refine wp_region_l (RuC nb kb #[.slice V j c] #[.string nm2, .int .i64 k3, .int .u64 a3, .int .u64 b3, .int .u64 c3, .int .u64 d3, .string t3, .slice A3 ln3 cp3]) (· == 11) (by kernel_rfl) ?_
                have hC := hC0.below (Below.refl _ _).drew
                have hI := hI1.below (Below.refl _ _).drew
                have hbd : (w11.drew).heap.size = w11.heap.size := rfl
                have hDr : Below w11.heap.size w11 w11.drew := (Below.refl _ _).drew
                rw [← hbd] at hbase1 hold1
                generalize w11.drew = wd at hC hI hbase1 hold1 hDr ⊢
                clear hC0 hI1 hbd
                apply L.rd (i := 0) rfl (by kernel_rfl) hC rfl
                · intro W hW
                  skip
                  unfold readW
                  go_simp
                  first | rfl | exact ⟨rfl, rfl⟩
                first | simp only [Act.put, List.setIfInBounds_toArray, List.set_cons_succ, List.set_cons_zero] | skip
                apply L.rd (i := 1) rfl (by kernel_rfl) hC rfl
                · intro W hW
                  have n0 := hW.out.cell 0
                  unfold readW
                  go_simp
                  first | rfl | exact ⟨rfl, rfl⟩
                first | simp only [Act.put, List.setIfInBounds_toArray, List.set_cons_succ, List.set_cons_zero] | skip
                apply L.rd (i := 2) rfl (by kernel_rfl) hC rfl
                · intro W hW
                  skip
                  unfold readW
                  go_simp
                  first | rfl | exact ⟨rfl, rfl⟩
                first | simp only [Act.put, List.setIfInBounds_toArray, List.set_cons_succ, List.set_cons_zero] | skip
                apply L.rd (i := 3) rfl (by kernel_rfl) hC rfl
                · intro W hW
                  have n0 := hW.rule.cell 0
                  unfold readW
                  go_simp
                  first | rfl | exact ⟨rfl, rfl⟩
                first | simp only [Act.put, List.setIfInBounds_toArray, List.set_cons_succ, List.set_cons_zero] | skip
                apply L.rd (i := 4) rfl (by kernel_rfl) hC rfl
                · intro W hW
                  skip
                  unfold readW
                  go_simp
                  first | rfl | exact ⟨rfl, rfl⟩
                first | simp only [Act.put, List.setIfInBounds_toArray, List.set_cons_succ, List.set_cons_zero] | skip
                apply L.rd (i := 5) rfl (by kernel_rfl) hC rfl
                · intro W hW
                  have r1 := hW.rule.cell 1; have r2 := hW.rule.cell 2; have r3 := hW.rule.cell 3; have r4 := hW.rule.cell 4; have r5 := hW.rule.cell 5; have r6 := hW.rule.cell 6; have r7 := hW.rule.cell 7
                  unfold readW
                  go_simp
                  first | rfl | exact ⟨rfl, rfl⟩
                first | simp only [Act.put, List.setIfInBounds_toArray, List.set_cons_succ, List.set_cons_zero] | skip
                apply L.one (i := 6) rfl (by kernel_rfl) rfl
                unfold stepT
                go_simp
                go_at_call 50
                refine (HC1.out _ hDr).mono ?_
                rintro e wn ⟨⟨rc, rfl, hF⟩, hbn⟩
                have hC := hC.below hbn
                have hI := hI.below hbn
                have hbase2 := Nat.le_trans hbase1 hbn.size
                clear hbn hDr
                have hrc := ex_one' hF.is
                obtain ⟨k1, a1, b1, c1, d1, t1, A1, n1, cp1, rfl⟩ := Ex.parts _ hF.is
                refine ⟨_, rfl, hC, ?_⟩
                first | simp only [Act.put, List.setIfInBounds_toArray, List.set_cons_succ, List.set_cons_zero] | skip
                apply L.rd (i := 7) rfl (by kernel_rfl) hC rfl
                · intro W hW
                  skip
                  unfold readW
                  go_simp
                  first | rfl | exact ⟨rfl, rfl⟩
                first | simp only [Act.put, List.setIfInBounds_toArray, List.set_cons_succ, List.set_cons_zero] | skip
                apply L.one (i := 8) rfl (by kernel_rfl) rfl
                unfold stepT
                go_simp
                have hF1 := (hF.keep (W' := wn.alloc (.cells #[.string nm2, .int .i64 k1, .int .u64 a1, .int .u64 b1, .int .u64 c1, .int .u64 d1, .string t1, .slice A1 n1 cp1] 44)) fun p hp => World.cell?_alloc_lt wn _ p hp.2).mono (S' := fun b => wd.heap.size ≤ b ∧ b < (wn.alloc (.cells #[.string nm2, .int .i64 k1, .int .u64 a1, .int .u64 b1, .int .u64 c1, .int .u64 d1, .string t1, .slice A1 n1 cp1] 44)).heap.size) (fun b hb => ⟨hb.1, by simp; omega⟩) (hi' := (wn.alloc (.cells #[.string nm2, .int .i64 k1, .int .u64 a1, .int .u64 b1, .int .u64 c1, .int .u64 d1, .string t1, .slice A1 n1 cp1] 44)).heap.size) (by simp)
                have hkb : Blk (wn.alloc (.cells #[.string nm2, .int .i64 k1, .int .u64 a1, .int .u64 b1, .int .u64 c1, .int .u64 d1, .string t1, .slice A1 n1 cp1] 44)) wn.heap.size 44 #[.string nm2, .int .i64 k1, .int .u64 a1, .int .u64 b1, .int .u64 c1, .int .u64 d1, .string t1, .slice A1 n1 cp1] := blk_at rfl
                have hC := hC.below ((Below.refl _ _).alloc (Nat.le_refl _) (.cells #[.string nm2, .int .i64 k1, .int .u64 a1, .int .u64 b1, .int .u64 c1, .int .u64 d1, .string t1, .slice A1 n1 cp1] 44))
                have hI := hI.below ((Below.refl _ _).alloc (Nat.le_refl _) (.cells #[.string nm2, .int .i64 k1, .int .u64 a1, .int .u64 b1, .int .u64 c1, .int .u64 d1, .string t1, .slice A1 n1 cp1] 44))
                have hbase3 : nb + 1 ≤ (wn.alloc (.cells #[.string nm2, .int .i64 k1, .int .u64 a1, .int .u64 b1, .int .u64 c1, .int .u64 d1, .string t1, .slice A1 n1 cp1] 44)).heap.size := by simp; omega
                generalize (wn.alloc (.cells #[.string nm2, .int .i64 k1, .int .u64 a1, .int .u64 b1, .int .u64 c1, .int .u64 d1, .string t1, .slice A1 n1 cp1] 44)) = wkk at hC hI hkb hF1 hbase3 ⊢
                generalize wn.heap.size = rb at hkb ⊢
                clear hF hbase2
                refine ⟨hC, ?_⟩
                apply L.one (i := 9) rfl (by kernel_rfl) rfl
                refine stepT_append_at (.tmp 55) (.tmp 62) 22 rfl (nb + 1) 44 i1 _ 8 96 Try.underlying22 hi1 hy0 hy1 hy2 rfl (by decide) (.slice V j c) j (ruF (G.take j) rows 0) (by simp [Act.eval]) (by have h1 := hI.rus.own; rw [hll] at h1; exact h1) ⟨rb, 0, none⟩ 1 1 (.string nm2 :: [.int .i64 k1, .int .u64 a1, .int .u64 b1, .int .u64 c1, .int .u64 d1, .string t1, .slice A1 n1 cp1]) (by simp [Act.eval]) rfl (fun i u hu => by rw [cell_add]; exact (hkb.cell i).trans (by rw [List.getElem?_toArray]; exact hu)) (fun u hu => by rcases List.mem_cons.1 hu with rfl | hu; rfl; exact hrc u hu) (by unfold maxLen; omega) (by omega) hbase3 ?_
                intro v' w3 hown hgr hat
                obtain ⟨V3, c3, rfl⟩ := own_form hown
                have hI3 := hI.push HEJ.out hbase1 hold1 HNM.out hF1 hown hgr hat
                have hC := hC.grown hgr hone hkne
                refine ⟨fun _ => hC, ?_⟩
                first | simp only [Act.put, List.setIfInBounds_toArray, List.set_cons_succ, List.set_cons_zero] | skip
                apply L.rd (i := 10) rfl (by kernel_rfl) hC rfl
                · intro W hW
                  skip
                  unfold readW
                  go_simp
                  first | rfl | exact ⟨rfl, rfl⟩
                first | simp only [Act.put, List.setIfInBounds_toArray, List.set_cons_succ, List.set_cons_zero] | skip
                have n0 := hC.out.cell 0
                have f0 := hC.out.frozen 0
                apply L.one (i := 11) rfl (by kernel_rfl) rfl
                unfold stepT
                go_simp
                refine L.done (by kernel_rfl) ?_
                have HI3 := Lib.hid hI3
                clear hI hI3 hC hown hgr hkb n0 f0 hat hF1 hold1 hbase1 hbase3 hkne hone hll
                go_wp2
                go_roundw
                case rel => exact ⟨j + 1, V3, c3, _, by omega, by go_num, HI3⟩
                case measure => simp [intOf]; omega
              · have hjmi : ((j : Int) == (m : Int)) = false := by rw [beq_eq_false_iff_ne]; omega
                rw [if_neg hjm] at hgj
                have HEJ : Hid (G[j]? = some (nm2, .mk k2 a2 b2 c2 d2 t2 ks2)) := hgj
                clear hjm
                have hby := hby0
                have hI1 := hI.below hby
                have hC0 : RuC nb wz.heap.size #[.slice V j c] #[.string nm2, .int .i64 k2, .int .u64 a2, .int .u64 b2, .int .u64 c2, .int .u64 d2, .string t2, .slice A2 ks2.length cp2] wy := ⟨hI.out.below hby hI.out.lt, hyb⟩
                have hbz1 := hbz.trans (hby.mono hzz)
                have hbase1 : nb + 1 ≤ wy.heap.size := by have := hby.size; omega
                have hold1 : ∀ q, (Value.slice V j c).ownBlock = some q → q < wy.heap.size := fun q hq => by have := hold q hq; have := hby.size; omega
                have HI1 := Lib.hid hI1
                have HC0 := Lib.hid hC0
                have HBZ1 := Lib.hid hbz1
                have HBA1 := Lib.hid hbase1
                have HOL1 := Lib.hid hold1
                clear hby hyb hI1 hC0 hbz1 hbase1 hold1
                go_upto_region 17 with fail
                generalize wy = w11 at HI1 HC0 HBZ1 HBA1 HOL1 ⊢
                have hI1 := HI1.out
                have hC0 := HC0.out
                have hbz1 := HBZ1.out
                have hbase1 := HBA1.out
                have hold1 := HOL1.out
                clear HI1 HC0 HBZ1 HBA1 HOL1
                generalize wz.heap.size = kb at hC0 hkne ⊢
                have hc1 : ∀ W, Below w11.heap.size w11 W → Calls Try.prog 50 #[.agg #[.int .i64 k2, .int .u64 a2, .int .u64 b2, .int .u64 c2, .int .u64 d2, .string t2, .slice A2 ks2.length cp2]] W (MadeQ (.mk k2 a2 b2 c2 d2 t2 ks2) W) := fun W hW => HCP.out j nm2 k2 a2 b2 c2 d2 t2 ks2 A2 cp2 W (hbz1.trans (hW.mono hbz1.size)) hej2 hE2
                have HC1 := Lib.hid hc1
                clear hc1 hI HI hold hE2 hej2 hgj hnm2 hS2 had1
                refine wp_region_l (RuC nb kb #[.slice V j c] #[.string nm2, .int .i64 k2, .int .u64 a2, .int .u64 b2, .int .u64 c2, .int .u64 d2, .string t2, .slice A2 ks2.length cp2]) (· == 11) (by kernel_rfl) ?_
                have hC := hC0.below (Below.refl _ _).drew
                have hI := hI1.below (Below.refl _ _).drew
                have hbd : (w11.drew).heap.size = w11.heap.size := rfl
                have hDr : Below w11.heap.size w11 w11.drew := (Below.refl _ _).drew
                rw [← hbd] at hbase1 hold1
                generalize w11.drew = wd at hC hI hbase1 hold1 hDr ⊢
                clear hC0 hI1 hbd
                apply L.rd (i := 0) rfl (by kernel_rfl) hC rfl
                · intro W hW
                  skip
                  unfold readW
                  go_simp
                  first | rfl | exact ⟨rfl, rfl⟩
                first | simp only [Act.put, List.setIfInBounds_toArray, List.set_cons_succ, List.set_cons_zero] | skip
                apply L.rd (i := 1) rfl (by kernel_rfl) hC rfl
                · intro W hW
                  have n0 := hW.out.cell 0
                  unfold readW
                  go_simp
                  first | rfl | exact ⟨rfl, rfl⟩
                first | simp only [Act.put, List.setIfInBounds_toArray, List.set_cons_succ, List.set_cons_zero] | skip
                apply L.rd (i := 2) rfl (by kernel_rfl) hC rfl
                · intro W hW
                  skip
                  unfold readW
                  go_simp
                  first | rfl | exact ⟨rfl, rfl⟩
                first | simp only [Act.put, List.setIfInBounds_toArray, List.set_cons_succ, List.set_cons_zero] | skip
                apply L.rd (i := 3) rfl (by kernel_rfl) hC rfl
                · intro W hW
                  have n0 := hW.rule.cell 0
                  unfold readW
                  go_simp
                  first | rfl | exact ⟨rfl, rfl⟩
                first | simp only [Act.put, List.setIfInBounds_toArray, List.set_cons_succ, List.set_cons_zero] | skip
                apply L.rd (i := 4) rfl (by kernel_rfl) hC rfl
                · intro W hW
                  skip
                  unfold readW
                  go_simp
                  first | rfl | exact ⟨rfl, rfl⟩
                first | simp only [Act.put, List.setIfInBounds_toArray, List.set_cons_succ, List.set_cons_zero] | skip
                apply L.rd (i := 5) rfl (by kernel_rfl) hC rfl
                · intro W hW
                  have r1 := hW.rule.cell 1; have r2 := hW.rule.cell 2; have r3 := hW.rule.cell 3; have r4 := hW.rule.cell 4; have r5 := hW.rule.cell 5; have r6 := hW.rule.cell 6; have r7 := hW.rule.cell 7
                  unfold readW
                  go_simp
                  first | rfl | exact ⟨rfl, rfl⟩
                first | simp only [Act.put, List.setIfInBounds_toArray, List.set_cons_succ, List.set_cons_zero] | skip
                apply L.one (i := 6) rfl (by kernel_rfl) rfl
                unfold stepT
                go_simp
                go_at_call 50
                refine (HC1.out _ hDr).mono ?_
                rintro e wn ⟨⟨rc, rfl, hF⟩, hbn⟩
                have hC := hC.below hbn
                have hI := hI.below hbn
                have hbase2 := Nat.le_trans hbase1 hbn.size
                clear hbn hDr
                have hrc := ex_one' hF.is
                obtain ⟨k1, a1, b1, c1, d1, t1, A1, n1, cp1, rfl⟩ := Ex.parts _ hF.is
                refine ⟨_, rfl, hC, ?_⟩
                first | simp only [Act.put, List.setIfInBounds_toArray, List.set_cons_succ, List.set_cons_zero] | skip
                apply L.rd (i := 7) rfl (by kernel_rfl) hC rfl
                · intro W hW
                  skip
                  unfold readW
                  go_simp
                  first | rfl | exact ⟨rfl, rfl⟩
                first | simp only [Act.put, List.setIfInBounds_toArray, List.set_cons_succ, List.set_cons_zero] | skip
                apply L.one (i := 8) rfl (by kernel_rfl) rfl
                unfold stepT
                go_simp
                have hF1 := (hF.keep (W' := wn.alloc (.cells #[.string nm2, .int .i64 k1, .int .u64 a1, .int .u64 b1, .int .u64 c1, .int .u64 d1, .string t1, .slice A1 n1 cp1] 44)) fun p hp => World.cell?_alloc_lt wn _ p hp.2).mono (S' := fun b => wd.heap.size ≤ b ∧ b < (wn.alloc (.cells #[.string nm2, .int .i64 k1, .int .u64 a1, .int .u64 b1, .int .u64 c1, .int .u64 d1, .string t1, .slice A1 n1 cp1] 44)).heap.size) (fun b hb => ⟨hb.1, by simp; omega⟩) (hi' := (wn.alloc (.cells #[.string nm2, .int .i64 k1, .int .u64 a1, .int .u64 b1, .int .u64 c1, .int .u64 d1, .string t1, .slice A1 n1 cp1] 44)).heap.size) (by simp)
                have hkb : Blk (wn.alloc (.cells #[.string nm2, .int .i64 k1, .int .u64 a1, .int .u64 b1, .int .u64 c1, .int .u64 d1, .string t1, .slice A1 n1 cp1] 44)) wn.heap.size 44 #[.string nm2, .int .i64 k1, .int .u64 a1, .int .u64 b1, .int .u64 c1, .int .u64 d1, .string t1, .slice A1 n1 cp1] := blk_at rfl
                have hC := hC.below ((Below.refl _ _).alloc (Nat.le_refl _) (.cells #[.string nm2, .int .i64 k1, .int .u64 a1, .int .u64 b1, .int .u64 c1, .int .u64 d1, .string t1, .slice A1 n1 cp1] 44))
                have hI := hI.below ((Below.refl _ _).alloc (Nat.le_refl _) (.cells #[.string nm2, .int .i64 k1, .int .u64 a1, .int .u64 b1, .int .u64 c1, .int .u64 d1, .string t1, .slice A1 n1 cp1] 44))
                have hbase3 : nb + 1 ≤ (wn.alloc (.cells #[.string nm2, .int .i64 k1, .int .u64 a1, .int .u64 b1, .int .u64 c1, .int .u64 d1, .string t1, .slice A1 n1 cp1] 44)).heap.size := by simp; omega
                generalize (wn.alloc (.cells #[.string nm2, .int .i64 k1, .int .u64 a1, .int .u64 b1, .int .u64 c1, .int .u64 d1, .string t1, .slice A1 n1 cp1] 44)) = wkk at hC hI hkb hF1 hbase3 ⊢
                generalize wn.heap.size = rb at hkb ⊢
                clear hF hbase2
                refine ⟨hC, ?_⟩
                apply L.one (i := 9) rfl (by kernel_rfl) rfl
                refine stepT_append_at (.tmp 55) (.tmp 62) 22 rfl (nb + 1) 44 i1 _ 8 96 Try.underlying22 hi1 hy0 hy1 hy2 rfl (by decide) (.slice V j c) j (ruF (G.take j) rows 0) (by simp [Act.eval]) (by have h1 := hI.rus.own; rw [hll] at h1; exact h1) ⟨rb, 0, none⟩ 1 1 (.string nm2 :: [.int .i64 k1, .int .u64 a1, .int .u64 b1, .int .u64 c1, .int .u64 d1, .string t1, .slice A1 n1 cp1]) (by simp [Act.eval]) rfl (fun i u hu => by rw [cell_add]; exact (hkb.cell i).trans (by rw [List.getElem?_toArray]; exact hu)) (fun u hu => by rcases List.mem_cons.1 hu with rfl | hu; rfl; exact hrc u hu) (by unfold maxLen; omega) (by omega) hbase3 ?_
                intro v' w3 hown hgr hat
                obtain ⟨V3, c3, rfl⟩ := own_form hown
                have hI3 := hI.push HEJ.out hbase1 hold1 HNM.out hF1 hown hgr hat
                have hC := hC.grown hgr hone hkne
                refine ⟨fun _ => hC, ?_⟩
                first | simp only [Act.put, List.setIfInBounds_toArray, List.set_cons_succ, List.set_cons_zero] | skip
                apply L.rd (i := 10) rfl (by kernel_rfl) hC rfl
                · intro W hW
                  skip
                  unfold readW
                  go_simp
                  first | rfl | exact ⟨rfl, rfl⟩
                first | simp only [Act.put, List.setIfInBounds_toArray, List.set_cons_succ, List.set_cons_zero] | skip
                have n0 := hC.out.cell 0
                have f0 := hC.out.frozen 0
                apply L.one (i := 11) rfl (by kernel_rfl) rfl
                unfold stepT
                go_simp
                refine L.done (by kernel_rfl) ?_
                have HI3 := Lib.hid hI3
                clear hI hI3 hC hown hgr hkb n0 f0 hat hF1 hold1 hbase1 hbase3 hkne hone hll
                go_wp2
                go_roundw
                case rel => exact ⟨j + 1, V3, c3, _, by omega, by go_num, HI3⟩
                case measure => simp [intOf]; omega
            · obtain rfl : j = g.length := by omega
              have hgr := hI.rus.gr
              rw [List.take_of_length_le (by omega)] at hgr
              have hwe := well_any hgr.is
              unfold WellQ at hwe
              rw [hGl] at hwe
              have hm0 := hI.out.cell 0
              simp at hm0
              have hWx : Below wx.heap.size wx wz := hbL.trans (hI.bel.mono hbL.size)
              have hout := hI.out
              have HGR := Lib.hid hgr
              clear hI HI hgr hjn
              obtain ⟨y1, hy1'⟩ : ∃ y, (wellG G).1 = y := ⟨_, rfl⟩
              rw [hy1'] at hwe
              by_cases hw0 : (wellG G).2 = 0
              · rw [hw0] at hwe
                have HWE := Lib.hid hwe
                clear hwe hy1'
                go_wp2_with fail
                refine HWE.out.mono ?_
                rintro e w7 ⟨rfl, hb7⟩
                have hD7 := hWx.trans (hb7.mono hWx.size)
                have hm7 : w7.cell? ⟨nb, 0, none⟩ = some (.slice V g.length c) := (hout.below hb7 hnl).cell 0
                have hn7 := (hout.below hb7 hnl).lt
                have hz7 := hb7.size
                have hg7 := (HGR.out.keep (W' := w7) fun p hp => hb7.cell hp.2)
                have hS7 := HS.out.below hD7
                obtain ⟨ms, hm1, hm2, hm30⟩ := HS.out.mts
                have hm3 := hm30.below hD7
                have hoq : ∀ a ∈ ms, a.hi ≤ wx.heap.size := fun a ha => (hm30.gr a ha).2.2.1
                have hqo : ∀ q, (Value.slice Vo l co).ownBlock = some q → q < wx.heap.size := fun q hq => (hm30.own.lt q (by rw [hm2]; exact hq)).2
                have HOQ := Lib.hid hoq
                have HQO := Lib.hid hqo
                have hl3 : l ≤ 360 := by
                  have h := HPM.out q
                  rw [← hm1, List.length_map] at h
                  omega
                have hOM := hm3.own.alloc (.cells #[.slice V g.length c] 24)
                rw [hm2] at hOM
                have HOM := Lib.hid hOM
                have HM1 := Lib.hid hm1
                have HM2 := Lib.hid hm2
                have HM3 := Lib.hid (hm3.below ((Below.refl _ w7).alloc (Nat.le_refl _) (.cells #[.slice V g.length c] 24)))
                have HB7 := Lib.hid (hS7.bel.alloc hS7.bel.size (.cells #[.slice V g.length c] 24))
                have HGX := Lib.hid (hS7.gx.alloc (.cells #[.slice V g.length c] 24))
                have HG7 := Lib.hid (hg7.keep (W' := w7.alloc (.cells #[.slice V g.length c] 24)) fun p hp => World.cell?_alloc_lt w7 _ p (by omega))
                have hT7 := Lib.hid (HT5.out.more (hD7.alloc hD7.size (.cells #[.slice V g.length c] 24)))
                have hw7 : w.heap.size + 1 ≤ w7.heap.size := by omega
                have hz75 : wk5.heap.size ≤ w7.heap.size := by have := hD7.size; omega
                clear hOM hm1 hm2 hm3 hm30 hS7 hb7 hg7 hout HGR hoq hqo
                go_wp2_with (at_builtin; refine wpList_append_own_at _ rfl _ _ _ rfl (w.heap.size + 1) 24 i2 _ 1 24 Try.underlying47 hi2 hu0 hu1 hu2 rfl (by decide) _ l (ms.map Mt.val) rfl HOM.out ⟨w7.heap.size, 0, none⟩ 1 1 [.slice V g.length c] rfl rfl (new_cells w7 24 [.slice V g.length c]) (by simp [Value.oneCell']) (by unfold maxLen; omega) (by omega) (by simp; omega) ?_; intro v' w8 hown8 hgr8 _ hat8; obtain ⟨V8, c8, rfl⟩ := own_form hown8)
                have hza : (w7.alloc (.cells #[.slice V g.length c] 24)).heap.size = w7.heap.size + 1 := by simp
                have hpush := HM3.out.push (m := ⟨V, G, c, rows, nb + 1, wz.heap.size⟩) HM2.out (HG7.out.mono (fun b hb => hb) (by omega)) (by show _ ≤ nb + 1; omega) (by show wz.heap.size ≤ _; omega) (fun q hq hx => by have := HQO.out q hq; simp only at hx; omega)
                  (fun a ha => by have := HOQ.out a ha; show _ ≤ nb + 1; omega) (by have h := hown8; rw [← hGl] at h; exact h) hgr8 hat8
                have hM8 : MuS w (.slice (some ad) g.length cp) (mutFrom g (g.take m) 0 ++ (((X.take (q + 1)).map fun x => putB g m x)).filter (fun m => (wellG m).2 = 0)) (l + 1) V8 c8 w8 := by
                  refine ⟨below_app HB7.out HOM.out hgr8 HB7.out.size (by omega), HGX.out.grown hgr8 (own_ne HOM.out (by omega)), ms ++ [⟨V, G, c, rows, nb + 1, wz.heap.size⟩], ?_, by rw [List.length_append, HM2.out]; rfl, hpush⟩
                  have hsk : (((X.take (q + 1)).map fun x => putB g m x)).filter (fun m => decide ((wellG m).2 = 0)) = (((X.take q).map fun x => putB g m x)).filter (fun m => decide ((wellG m).2 = 0)) ++ [G] := by
                    rw [take_succ_of HX.out, List.map_append, List.filter_append]
                    simp [HGE.out, hw0]
                  rw [hsk, ← List.append_assoc, List.map_append, HM1.out]
                  rfl
                have HQ8 : Hid (MuQ2 w wk5 r0 (.slice (some ad) g.length cp) (mutFrom g (g.take m) 0 ++ (((X.take (q + 1)).map fun x => putB g m x)).filter (fun m => (wellG m).2 = 0)) (l + 1) V8 c8 w8) := by
                  refine ⟨hM8, hT7.out.grown' hgr8 HOWN5.out, ?_⟩
                  rcases hat8 with h | h
                  · rw [h]; exact HOWN5.out
                  · exact .inr ⟨_, h, by rw [hza]; omega⟩
                clear hM8 hpush hown8 hgr8 hat8
                go_roundw
                case rel => exact ⟨q + 1, l + 1, V8, c8, by omega, by go_num, rfl, HQ8⟩
                case measure => simp [intOf]; omega
              · have hwb : ((wellG G).2 == 0) = false := by rw [beq_eq_false_iff_ne]; exact hw0
                have HNO := Lib.hid hw0
                have hsk : (((X.take (q + 1)).map fun x => putB g m x)).filter (fun m => decide ((wellG m).2 = 0)) = (((X.take q).map fun x => putB g m x)).filter (fun m => decide ((wellG m).2 = 0)) := by
                  rw [take_succ_of HX.out, List.map_append, List.filter_append]
                  simp [HGE.out, hw0]
                have HSK := Lib.hid hsk
                generalize (wellG G).2 = z at hwb hwe
                have HWE := Lib.hid hwe
                clear hwe hy1' hw0 hsk
                go_wp2_with fail
                refine HWE.out.mono ?_
                rintro e w7 ⟨rfl, hb7⟩
                have hD7 := hWx.trans (hb7.mono hWx.size)
                have HQ8 : Hid (MuQ2 w wk5 r0 (.slice (some ad) g.length cp) (mutFrom g (g.take m) 0 ++ (((X.take (q + 1)).map fun x => putB g m x)).filter (fun m => (wellG m).2 = 0)) l Vo co w7) := by
                  refine ⟨?_, HT5.out.more hD7, HOWN5.out⟩
                  rw [HSK.out]
                  exact HS.out.below hD7
                clear hb7 hD7 hout HGR
                go_wp2
                go_roundw
                case rel => exact ⟨q + 1, l, Vo, co, by omega, by go_num, rfl, HQ8⟩
                case measure => simp [intOf]; omega
        · obtain rfl : q = nx := by omega
          have HA2 : Hid (MuS w (.slice (some ad) g.length cp) (mutFrom g (g.take (m + 1)) 0) l Vo co wx) := by
            have h := HA.out.1
            rw [← HNX.out, List.take_length, ← HSN.out] at h
            exact h
          clear HA hS hT5 hown5
          go_wp2
          go_roundw
          case rel => exact ⟨m + 1, l, Vo, co, by omega, by go_num, rfl, HA2⟩
          case measure => simp [intOf]; omega
    · obtain rfl : m = g.length := by omega
      have HF := Lib.hid (HQ.out _ _ _ _ HA.out)
      clear HA HQ HG HALL HCP HK8 HPRE
      go_wp2
      first | exact HF.out | (go_ret2; exact HF.out)
end Go.Proofs.Ytefechceoeeonaa
