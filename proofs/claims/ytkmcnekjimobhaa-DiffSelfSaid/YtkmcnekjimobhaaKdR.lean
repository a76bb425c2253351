/- Rules that are made anew: a grammar that rests on some blocks alone; rules in a row while they are appended. -/
import Derived.Test.YtkmcnekjimobhaaKdM
namespace Go.Proofs.Ytkmcnekjimobhaa
open Go.RowKit Go.Maps

/-- a grammar that rests on blocks of S alone -/
def GrF (S : Nat → Prop) (hi : Nat) (W : World) (g : List Rl) (V : Option Addr) (c : Nat) (rows : Nat → List Value) : Prop := ∀ X : World, (∀ p : Addr, S p.block → X.cell? p = W.cell? p) → GrIs X hi g V c rows
section
variable {S S' : Nat → Prop} {hi hi' : Nat} {W W' : World} {g : List Rl} {V : Option Addr} {c : Nat} {rows : Nat → List Value}
theorem GrF.is (h : GrF S hi W g V c rows) : GrIs W hi g V c rows := h W fun _ _ => rfl
theorem GrF.keep (h : GrF S hi W g V c rows) (hk : ∀ p : Addr, S p.block → W'.cell? p = W.cell? p) : GrF S hi W' g V c rows := fun X hX => h X fun p hp => (hX p hp).trans (hk p hp)
theorem GrF.mono (h : GrF S hi W g V c rows) (hs : ∀ b, S b → S' b) (hh : hi ≤ hi') : GrF S' hi' W g V c rows := fun X hX => (h X fun p hp => hX p (hs _ hp)).more hh
theorem GrF.nil (S : Nat → Prop) (hi : Nat) (W : World) : GrF S hi W [] none 0 (fun _ => []) := fun _ _ => ⟨by simp, by unfold maxLen; omega, fun _ => rfl, fun h => by simp at h, fun i r h => by simp at h, fun i r h => by simp at h, fun i r ad h => by simp at h, fun i r ad h => by simp at h⟩
end
/-- rules that were made anew, in a row of one's own -/
structure Rus (base : Nat) (W : World) (g : List Rl) (V : Option Addr) (c : Nat) (rows : Nat → List Value) : Prop where
  own : W.ownsRow base 96 8 (.slice V g.length c) g.length (ruF g rows 0)
  small : ∀ r ∈ g, r.1.size ≤ maxLen
  body : ∀ i r, g[i]? = some r → ExF (fun b => base ≤ b ∧ b < W.heap.size ∧ some b ≠ (Value.slice V g.length c).ownBlock) W.heap.size W r.2 (rows i)
section
variable {base : Nat} {W W' : World} {g : List Rl} {V : Option Addr} {c : Nat} {rows : Nat → List Value}
theorem Rus.nil (base : Nat) (W : World) : Rus base W [] none 0 (fun _ => []) := ⟨World.ownsRow_nil _ _ _ _, fun _ h => (by cases h), fun i e h => by simp at h⟩
theorem Rus.below (h : Rus base W g V c rows) (hb : Below W.heap.size W W') : Rus base W' g V c rows :=
  ⟨own_below h.own hb, h.small, fun i e he => ((h.body i e he).keep (W' := W') fun _ hp => hb.cell hp.2.1).mono (fun _ hb' => ⟨hb'.1, Nat.lt_of_lt_of_le hb'.2.1 hb.size, hb'.2.2⟩) hb.size⟩
theorem Rus.far (h : Rus base W g V c rows) {k : Nat} (hk : k < base) (i : Nat) (u : Value) : Rus base (W.setCell ⟨k, i, none⟩ u) g V c rows :=
  have hs : (W.setCell ⟨k, i, none⟩ u).heap.size = W.heap.size := by simp [World.setCell]
  ⟨own_far h.own ⟨rfl, rfl, rfl, by simp [World.setCell], fun q hq hne => Below.heap_setCell W ⟨k, i, none⟩ u q (by rintro rfl; exact hne rfl)⟩ hk, h.small, fun j e he => by
    rw [hs]
    exact (h.body j e he).keep fun p hp => World.cell?_setCell_other W _ p u (by rintro rfl; have := hp.1; simp at this; omega)⟩
theorem Rus.old (h : Rus base W g V c rows) : ∀ q, (Value.slice V g.length c).ownBlock = some q → q < W.heap.size := fun q hq => (h.own.lt q hq).2
/-- one rule more -/
theorem Rus.push {V' : Option Addr} {c' lo : Nat} {r : Rl} {rc : List Value} (h : Rus base W g V c rows) (hlo : base ≤ lo) (hold : ∀ q, (Value.slice V g.length c).ownBlock = some q → q < lo) (hn : r.1.size ≤ maxLen) (hE : ExF (fun b => lo ≤ b ∧ b < W.heap.size) W.heap.size W r.2 rc)
    (hown : W'.ownsRow base 96 8 (.slice V' (g.length + 1) c') (g.length + 1) (ruF g rows 0 ++ (.string r.1 :: rc))) (hg : W.grownBy W' (Value.slice V g.length c).ownBlock)
    (hat : (Value.slice V' (g.length + 1) c').ownBlock = (Value.slice V g.length c).ownBlock ∨ (Value.slice V' (g.length + 1) c').ownBlock = some W.heap.size) :
    Rus base W' (g ++ [r]) V' c' (fun i => if i = g.length then rc else rows i) := by
  have hl : (g ++ [r]).length = g.length + 1 := by simp
  have hne : ∀ b, b < W.heap.size → some b ≠ (Value.slice V g.length c).ownBlock → some b ≠ (Value.slice V' (g.length + 1) c').ownBlock := fun b hb hne => by
    rcases hat with h1 | h1
    · rw [h1]; exact hne
    · rw [h1]; intro e; injection e with e; omega
  have hkeep : ∀ p : Addr, p.block < W.heap.size → some p.block ≠ (Value.slice V g.length c).ownBlock → W'.cell? p = W.cell? p := fun p h1 h2 => World.cell?_of_block (hg.block p.block h1 h2)
  refine ⟨?_, fun x hx => ?_, fun i x hx => ?_⟩
  · rw [hl, ruF_app, ruF_same g (fun i => if i = g.length then rc else rows i) rows 0 (fun i hi => if_neg (by omega)), ruF, ruF, List.append_nil, Nat.zero_add, if_pos rfl]
    exact hown
  · rcases List.mem_append.1 hx with hx | hx
    · exact h.small x hx
    · rw [List.mem_singleton.1 hx]; exact hn
  · rw [hl]
    by_cases hi : i < g.length
    · rw [List.getElem?_append_left hi] at hx
      rw [if_neg (by omega)]
      exact ((h.body i x hx).keep (W' := W') fun p hp => hkeep p hp.2.1 hp.2.2).mono (fun b hb => ⟨hb.1, Nat.lt_of_lt_of_le hb.2.1 hg.size, hne b hb.2.1 hb.2.2⟩) hg.size
    · have hi' : i = g.length := by have := getElem?_lt hx; simp at this; omega
      subst hi'
      simp at hx
      subst hx
      rw [if_pos rfl]
      have hx : ∀ b, lo ≤ b → some b ≠ (Value.slice V g.length c).ownBlock := fun b hb e => by have := hold b e.symm; omega
      exact (hE.keep (W' := W') fun p hp => hkeep p hp.2 (hx _ hp.1)).mono (fun b hb => ⟨Nat.le_trans hlo hb.1, Nat.lt_of_lt_of_le hb.2 hg.size, hne b hb.2 (hx b hb.1)⟩) hg.size
/-- the grammar of these rules -/
theorem Rus.gr (h : Rus base W g V c rows) : GrF (fun b => base ≤ b ∧ b < W.heap.size) W.heap.size W g V c rows := by
  intro X hX
  have h7 : ∀ j, j < g.length → (rows (0 + j)).length = 7 := fun j hj => by rw [Nat.zero_add]; exact (h.body j _ (List.getElem?_eq_getElem hj)).len7
  have ho := h.own
  have hlt := ho.lt
  have hc : g.length ≤ c ∧ c ≤ maxLen ∧ (V = none → c = 0) ∧ (0 < g.length → ∃ ad : Addr, V = some ad ∧ ad.block < W.heap.size ∧ base ≤ ad.block) ∧ ∀ (ad : Addr), V = some ad → ∀ j u, (ruF g rows 0)[j]? = some u → W.cell? (ad.add j) = some u := by
    rcases ho.2 with ⟨h1, h2⟩ | ⟨g1, cap, cur, hv, h3, h4, h5, h6, _⟩
    · injection h1 with e1 e2 e3
      subst e1 e3
      exact ⟨by omega, by unfold maxLen; omega, fun _ => rfl, fun h => by omega, fun _ h => by cases h⟩
    · injection hv with e1 e2 e3
      subst e1 e3
      refine ⟨h5, h6, fun h => (by cases h), fun _ => ⟨_, rfl, (hlt g1 rfl).2, (hlt g1 rfl).1⟩, fun ad hA j u hu => ?_⟩
      injection hA with hA
      subst hA
      exact ho.cells rfl j u hu
  obtain ⟨c1, c2, c3, c4, c5⟩ := hc
  have hcell : ∀ (i : Nat) (r : Rl) (ad : Addr), g[i]? = some r → V = some ad → ∀ j u, (ruF g rows 0)[j]? = some u → X.cell? (ad.add j) = some u := fun i r ad hr hA j u hu => by
    obtain ⟨ad', e1, e2, e3⟩ := c4 (by have := getElem?_lt hr; omega)
    rw [hA] at e1
    injection e1 with e1
    subst e1
    rw [hX _ (by rw [add_block]; exact ⟨e3, e2⟩)]
    exact c5 ad hA j u hu
  refine ⟨c1, c2, c3, fun h0 => by obtain ⟨ad, e1, e2, _⟩ := c4 h0; exact ⟨ad, e1, e2⟩, fun i r hr => h.small r (List.mem_of_getElem? hr), fun i r hr => h.body i r hr X fun p hp => hX p ⟨hp.1, hp.2.1⟩, fun i r ad hr hA => ?_, fun i r ad hr hA j u hu => ?_⟩
  · exact hcell i r ad hr hA _ _ (ruF_get g rows 0 i r h7 hr).1
  · rw [add_add']
    exact hcell i r ad hr hA _ _ ((ruF_get g rows 0 i r h7 hr).2 j u (by rw [Nat.zero_add]; exact hu))
end
/-- what a region reads where a rule is appended: the box of what is made, the rule's box -/
structure RuC (ob kb : Nat) (o k : Array Value) (W : World) : Prop where
  out : Blk W ob 24 o
  rule : Blk W kb 96 k
theorem RuC.below {ob kb : Nat} {o k : Array Value} {W W' : World} (h : RuC ob kb o k W) (hb : Below W.heap.size W W') : RuC ob kb o k W' := ⟨h.out.below hb h.out.lt, h.rule.below hb h.rule.lt⟩
theorem RuC.grown {ob kb : Nat} {o k : Array Value} {W W' : World} {r : Option Nat} (h : RuC ob kb o k W) (hg : W.grownBy W' r) (h1 : some ob ≠ r) (h2 : some kb ≠ r) : RuC ob kb o k W' := ⟨h.out.grown hg h1, h.rule.grown hg h2⟩
end Go.Proofs.Ytkmcnekjimobhaa
