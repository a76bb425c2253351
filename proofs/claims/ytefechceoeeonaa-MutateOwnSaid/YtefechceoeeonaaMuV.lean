/- mutate.turns: what it has made so far, while it makes more. -/
import Derived.Test.YtefechceoeeonaaMuT
namespace Go.Proofs.Ytefechceoeeonaa
open Go.RowKit Go.Maps

/-- turns at work: the boxes of what came in and of what is made, and what is made -/
structure TuV (B0 : Nat) (w : World) (pc : Array Value) (es : List Ex) (V : Option Addr) (cv : Nat) (rows : Nat → List Value) (W : World) : Prop where
  b0 : B0 ≤ w.heap.size
  bel : Below w.heap.size w W
  pb : Blk W w.heap.size 38 pc
  ob : Blk W (w.heap.size + 1) 36 #[.slice V es.length cv]
  outs : Outs (fun b => B0 ≤ b ∧ b < w.heap.size + 2) (w.heap.size + 2) W es V cv rows
def TuS (B0 : Nat) (w : World) (pc : Array Value) (es : List Ex) (W : World) : Prop := ∃ V cv rows, TuV B0 w pc es V cv rows W
/-- what a region of it reads -/
structure TuC (w : World) (ov : Value) (pc : Array Value) (W : World) : Prop where
  bel : Below w.heap.size w W
  pb : Blk W w.heap.size 38 pc
  ob : Blk W (w.heap.size + 1) 36 #[ov]
section
variable {B0 : Nat} {w W W' : World} {ov : Value} {pc : Array Value} {es : List Ex} {V : Option Addr} {cv : Nat} {rows : Nat → List Value}
theorem TuC.below (h : TuC w ov pc W) (hb : Below W.heap.size W W') : TuC w ov pc W' := ⟨h.bel.trans (hb.mono h.bel.size), h.pb.below hb h.pb.lt, h.ob.below hb h.ob.lt⟩
theorem TuC.drew (h : TuC w ov pc W) : TuC w ov pc W.drew := ⟨h.bel.drew, h.pb.drew, h.ob.drew⟩
theorem TuC.alloc (h : TuC w ov pc W) (o : Obj) : TuC w ov pc (W.alloc o) := h.below ((Below.refl _ W).alloc (Nat.le_refl _) o)
theorem TuC.grown {e : TypeId} {size n : Nat} {v : Value} {xs : List Value} (h : TuC w ov pc W) (ho : W.ownsRow (w.heap.size + 2) e size v n xs) (hg : W.grownBy W' v.ownBlock) : TuC w ov pc W' :=
  ⟨below_app h.bel ho hg h.bel.size (by omega), h.pb.grown hg (own_ne ho (by omega)), h.ob.grown hg (own_ne ho (by omega))⟩
theorem TuV.c (h : TuV B0 w pc es V cv rows W) : TuC w (.slice V es.length cv) pc W := ⟨h.bel, h.pb, h.ob⟩
theorem TuV.below (h : TuV B0 w pc es V cv rows W) (hb : Below W.heap.size W W') : TuV B0 w pc es V cv rows W' := ⟨h.b0, h.bel.trans (hb.mono h.bel.size), h.pb.below hb h.pb.lt, h.ob.below hb h.ob.lt, h.outs.below hb⟩
theorem TuS.below (h : TuS B0 w pc es W) (hb : Below W.heap.size W W') : TuS B0 w pc es W' := by obtain ⟨V, cv, rows, h⟩ := h; exact ⟨V, cv, rows, h.below hb⟩
theorem TuS.bel (h : TuS B0 w pc es W) : Below w.heap.size w W := by obtain ⟨V, cv, rows, h⟩ := h; exact h.bel
theorem TuS.pb (h : TuS B0 w pc es W) : Blk W w.heap.size 38 pc := by obtain ⟨V, cv, rows, h⟩ := h; exact h.pb
theorem TuV.low (h : TuV B0 w pc es V cv rows W) {b : Nat} (hb : b < B0) : b < W.heap.size ∧ ¬ (B0 ≤ b ∧ b < w.heap.size + 2) ∧ some b ≠ (Value.slice V es.length cv).ownBlock :=
  ⟨by have := h.bel.size; have := h.b0; omega, by omega, fun e => by have := (h.outs.own.lt b e.symm).1; have := h.b0; omega⟩
/-- one more -/
theorem TuV.push {V' : Option Addr} {c' : Nat} {x : Ex} {r : List Value} (h : TuV B0 w pc es V cv rows W) (hT : TwoW (w.heap.size + 1) (Value.slice V es.length cv).ownBlock W W') (hob : Blk W' (w.heap.size + 1) 36 #[.slice V' (es.length + 1) c'])
    (hE : ExF (fun b => b < W.heap.size ∧ ¬ (B0 ≤ b ∧ b < w.heap.size + 2) ∧ some b ≠ (Value.slice V es.length cv).ownBlock) W.heap.size W x r)
    (hown : W'.ownsRow (w.heap.size + 2) 38 7 (.slice V' (es.length + 1) c') (es.length + 1) (kdF rows es.length ++ r)) (hat : (Value.slice V' (es.length + 1) c').ownBlock = (Value.slice V es.length cv).ownBlock ∨ ∃ q, (Value.slice V' (es.length + 1) c').ownBlock = some q ∧ W.heap.size ≤ q) :
    TuV B0 w pc (es ++ [x]) V' c' (fun i => if i = es.length then r else rows i) W' := by
  have hlt := h.ob.lt
  have hne : ∀ q, (Value.slice V es.length cv).ownBlock = some q → w.heap.size + 2 ≤ q := fun q hq => (h.outs.own.lt q hq).1
  have hb0 := h.b0
  refine ⟨hb0, h.bel.trans (hT.below (by omega) (by omega) fun q hq => by have := hne q hq; omega), ?_, ?_, h.outs.push hT ⟨by omega, by omega⟩ hE hown hat⟩
  · have h1 := h.pb
    have h2 := hT.block w.heap.size (by omega) (by omega) fun e => by have := hne _ e.symm; omega
    exact Eq.trans h2 h1
  · rw [List.length_append]
    exact hob
theorem TuV.push' {m : Nat} {V' : Option Addr} {c' : Nat} {x : Ex} {r : List Value} (hm : es.length = m) (h : TuV B0 w pc es V cv rows W) (hT : TwoW (w.heap.size + 1) (Value.slice V m cv).ownBlock W W') (hob : Blk W' (w.heap.size + 1) 36 #[.slice V' (m + 1) c'])
    (hE : ExF (fun b => b < W.heap.size ∧ ¬ (B0 ≤ b ∧ b < w.heap.size + 2) ∧ some b ≠ (Value.slice V m cv).ownBlock) W.heap.size W x r)
    (hown : W'.ownsRow (w.heap.size + 2) 38 7 (.slice V' (m + 1) c') (m + 1) (kdF rows m ++ r)) (hat : (Value.slice V' (m + 1) c').ownBlock = (Value.slice V m cv).ownBlock ∨ ∃ q, (Value.slice V' (m + 1) c').ownBlock = some q ∧ W.heap.size ≤ q) :
    TuV B0 w pc (es ++ [x]) V' c' (fun i => if i = m then r else rows i) W' := by
  subst hm
  exact h.push hT hob hE hown hat
/-- what came in lies there -/
structure TuP (w : World) (pc : Array Value) (W : World) : Prop where
  bel : Below w.heap.size w W
  pb : Blk W w.heap.size 38 pc
theorem TuP.below (h : TuP w pc W) (hb : Below W.heap.size W W') : TuP w pc W' := ⟨h.bel.trans (hb.mono h.bel.size), h.pb.below hb h.pb.lt⟩
theorem TuP.below' {W0 : World} (h : TuP w pc W0) (hb : Below W0.heap.size W0 W) : TuP w pc W := h.below hb
theorem TuS.p (h : TuS B0 w pc es W) : TuP w pc W := ⟨h.bel, h.pb⟩
/-- another expression over the closure -/
theorem with_step {p : Nat} {W1 : World} (k : Int) (A : Option Addr) (c : Nat) (ks : List Ex) (h : TuS B0 w pc es W1) (hb : Below W1.heap.size W1 W) (hp : p = W1.heap.size)
    (hE : ExF (fun b => b < B0 ∨ (p ≤ b ∧ b < W.heap.size)) W.heap.size W (ofN k ks) (exCells k 0 0 0 0 ⟨#[]⟩ A ks.length c)) (hm : es.length ≤ 4000) :
    Calls Try.prog 96 #[.int .i64 k, .slice A ks.length c, .pointer (some ⟨w.heap.size + 1, 0, none⟩)] W fun e w' => e = .returned (.tuple #[]) ∧ TuS B0 w pc (es ++ [ofN k ks]) w' := by
  obtain ⟨V, cv, rows, h1⟩ := h
  have h2 := h1.below hb
  have hold : ∀ q, (Value.slice V es.length cv).ownBlock = some q → q < p := fun q hq => by rw [hp]; exact h1.outs.old q hq
  have hz1 := h1.bel.size
  have hl1 := h1.ob.lt
  have hz := h2.bel.size
  refine (with_any k A ks.length c (w.heap.size + 1) V es.length cv (kdF rows es.length) (w.heap.size + 2) W h2.ob (by omega) (by have := h2.ob.lt; omega) h2.outs.own hm).mono ?_
  rintro e w' ⟨he, V', cv', hob, hown, hT, hat⟩
  refine ⟨he, V', cv', _, h2.push hT hob (hE.mono (fun b hb' => ?_) (Nat.le_refl _)) hown hat⟩
  rcases hb' with hb' | hb'
  · exact h2.low hb'
  · exact ⟨hb'.2, by omega, fun e => by have := hold b e.symm; omega⟩
end
/-- at the end -/
theorem TuV.fin' {B0 : Nat} {w W : World} {pc : Array Value} {es : List Ex} {x : Ex} {m : Nat} {V : Option Addr} {cv : Nat} {rows : Nat → List Value} (hm : es.length = m) (h : TuV B0 w pc (es ++ [x]) V cv rows W) : OutsQ B0 (es ++ [x]) w (.returned (.slice V (m + 1) cv)) W := by
  subst hm
  exact ⟨h.bel, V, cv, rows, by rw [List.length_append, List.length_singleton], (h.outs.own_base (by omega)).less fun b hb => ⟨hb.1, by omega⟩⟩
theorem TuV.ob' {B0 : Nat} {w W : World} {pc : Array Value} {es : List Ex} {x : Ex} {m : Nat} {V : Option Addr} {cv : Nat} {rows : Nat → List Value} (hm : es.length = m) (h : TuV B0 w pc (es ++ [x]) V cv rows W) : W.cell? ⟨w.heap.size + 1, 0, none⟩ = some (.slice V (m + 1) cv) := by
  subst hm
  have h1 := h.ob.cell 0
  rw [List.length_append, List.length_singleton] at h1
  exact h1
theorem TuV.fin {B0 : Nat} {w W : World} {pc : Array Value} {es : List Ex} {V : Option Addr} {cv : Nat} {rows : Nat → List Value} (h : TuV B0 w pc es V cv rows W) : OutsQ B0 es w (.returned (.slice V es.length cv)) W :=
  ⟨h.bel, V, cv, rows, rfl, (h.outs.own_base (by omega)).less fun b hb => ⟨hb.1, by omega⟩⟩
end Go.Proofs.Ytefechceoeeonaa
