/- Expressions in a row of one's own that rest anywhere but on that row and on some blocks. -/
import Derived.Test.YtefechceoeeonaaMuD
namespace Go.Proofs.Ytefechceoeeonaa
open Go.RowKit Go.Maps

/-- expressions in a row of one's own; what they rest on is neither the row's block nor one of N -/
structure Outs (N : Nat → Prop) (base : Nat) (W : World) (es : List Ex) (V : Option Addr) (c : Nat) (rows : Nat → List Value) : Prop where
  own : W.ownsRow base 38 7 (.slice V es.length c) es.length (kdF rows es.length)
  kid : ∀ i e, es[i]? = some e → ExF (fun b => b < W.heap.size ∧ ¬ N b ∧ some b ≠ (Value.slice V es.length c).ownBlock) W.heap.size W e (rows i)
section
variable {N N' : Nat → Prop} {base ob : Nat} {W W' : World} {es : List Ex} {V : Option Addr} {c : Nat} {rows : Nat → List Value}
theorem Outs.nil (N : Nat → Prop) (base : Nat) (W : World) : Outs N base W [] none 0 (fun _ => []) := ⟨World.ownsRow_nil _ _ _ _, fun i e h => by simp at h⟩
theorem Outs.below (h : Outs N base W es V c rows) (hb : Below W.heap.size W W') : Outs N base W' es V c rows :=
  ⟨own_below h.own hb, fun i e he => ((h.kid i e he).keep (W' := W') fun _ hp => hb.cell hp.1).mono (fun _ hb' => ⟨Nat.lt_of_lt_of_le hb'.1 hb.size, hb'.2⟩) hb.size⟩
theorem Outs.less (h : Outs N base W es V c rows) (hN : ∀ b, N' b → N b) : Outs N' base W es V c rows :=
  ⟨h.own, fun i e he => (h.kid i e he).mono (fun _ hb => ⟨hb.1, fun h => hb.2.1 (hN _ h), hb.2.2⟩) (Nat.le_refl _)⟩
theorem Outs.len7 (h : Outs N base W es V c rows) : ∀ i, i < es.length → (rows i).length = 7 := fun i hi => (h.kid i _ (List.getElem?_eq_getElem hi)).len7
theorem Outs.old (h : Outs N base W es V c rows) : ∀ q, (Value.slice V es.length c).ownBlock = some q → q < W.heap.size := fun q hq => (h.own.lt q hq).2
theorem Outs.push {V' : Option Addr} {c' : Nat} {x : Ex} {r : List Value} (h : Outs N base W es V c rows) (hT : TwoW ob (Value.slice V es.length c).ownBlock W W') (hN : N ob) (hE : ExF (fun b => b < W.heap.size ∧ ¬ N b ∧ some b ≠ (Value.slice V es.length c).ownBlock) W.heap.size W x r)
    (hown : W'.ownsRow base 38 7 (.slice V' (es.length + 1) c') (es.length + 1) (kdF rows es.length ++ r)) (hat : (Value.slice V' (es.length + 1) c').ownBlock = (Value.slice V es.length c).ownBlock ∨ ∃ q, (Value.slice V' (es.length + 1) c').ownBlock = some q ∧ W.heap.size ≤ q) :
    Outs N base W' (es ++ [x]) V' c' (fun i => if i = es.length then r else rows i) := by
  have hl : (es ++ [x]).length = es.length + 1 := by simp
  have hz := hT.size
  have hkeep : ∀ p : Addr, (p.block < W.heap.size ∧ ¬ N p.block ∧ some p.block ≠ (Value.slice V es.length c).ownBlock) → W'.cell? p = W.cell? p := fun p hp => World.cell?_of_block (hT.block p.block hp.1 (fun e => hp.2.1 (e ▸ hN)) hp.2.2)
  have hS : ∀ b, (b < W.heap.size ∧ ¬ N b ∧ some b ≠ (Value.slice V es.length c).ownBlock) → b < W'.heap.size ∧ ¬ N b ∧ some b ≠ (Value.slice V' (es.length + 1) c').ownBlock := fun b hb => ⟨by omega, hb.2.1, by
    rcases hat with h1 | ⟨q, h1, h2⟩
    · rw [h1]; exact hb.2.2
    · rw [h1]; intro e; injection e with e; omega⟩
  constructor
  · rw [hl, kdF, if_pos rfl, kdF_same (rows' := rows) fun i hi => if_neg (by omega)]
    exact hown
  · intro i e he
    rw [hl]
    by_cases hi : i < es.length
    · rw [List.getElem?_append_left hi] at he
      rw [if_neg (by omega)]
      exact ((h.kid i e he).keep hkeep).mono hS hz
    · have hi' : i = es.length := by have := getElem?_lt he; simp at this; omega
      subst hi'
      simp at he
      subst he
      rw [if_pos rfl]
      exact (hE.keep hkeep).mono hS hz
end
/-- what a call leaves that makes a row of expressions: they rest on blocks below B0, and on new ones -/
def OutsQ (B0 : Nat) (l : List Ex) (w : World) (e : Ending) (w' : World) : Prop := Below w.heap.size w w' ∧ ∃ V c rows, e = .returned (.slice V l.length c) ∧ Outs (fun b => B0 ≤ b ∧ b < w.heap.size) w.heap.size w' l V c rows
end Go.Proofs.Ytefechceoeeonaa
