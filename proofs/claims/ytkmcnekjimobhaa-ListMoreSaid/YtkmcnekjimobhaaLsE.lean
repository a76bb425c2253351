/- list.List where it lists. -/
import Derived.Test.YtkmcnekjimobhaaLsC
import Derived.Laws.OwnMore
namespace Go.Proofs.Ytkmcnekjimobhaa
open Go.RowKit Go.Shelf

attribute [local go_sem] Oper.semAt_some

theorem blk_keep {W W' : World} {row : Option Nat} {g : Nat} {t : TypeId} {cs : Array Value} (h : Blk W g t cs) (hg : W.grownBy W' row) (hr : ∀ r, row = some r → ∃ o : Obj, W.heap[r]? = some o ∧ o.isCells = false) : Blk W' g t cs :=
  h.grown hg fun e => by
    obtain ⟨o, ho, hc⟩ := hr g e.symm
    rw [show W.heap[g]? = _ from h] at ho
    cases ho
    cases hc
theorem own_keep {W W' : World} {row : Option Nat} {base : Nat} {e : TypeId} {size : Nat} {v : Value} {k : Nat} {xs : List Value} (h : W.ownsRow base e size v k xs) (hg : W.grownBy W' row) (hr : ∀ r, row = some r → ∃ o : Obj, W.heap[r]? = some o ∧ o.isCells = false) : W'.ownsRow base e size v k xs := by
  refine h.kept hg ?_
  rcases h.2 with ⟨rfl, _⟩ | ⟨g, cap, cur, rfl, _, hgb, _⟩
  · exact .inl rfl
  · refine .inr fun e' => ?_
    obtain ⟨o, ho, hc⟩ := hr g e'.symm
    rw [hgb] at ho
    cases ho
    cases hc
/-- while a list is made: the box of what was found, the budget, the result's boxes -/
structure LI (acc : ByteArray → Bool) (w : World) (bo bR : Nat) (gv : Value) (b : Nat) (pre : List ByteArray) (W : World) : Prop where
  le : pre.length ≤ b
  out : ∃ V c, Blk W bo 79 #[.slice V (pre.filter acc).length c] ∧ W.ownsRow bR 9 1 (.slice V (pre.filter acc).length c) (pre.filter acc).length ((pre.filter acc).map Value.string)
  gr : Blk W w.heap.size 24 #[gv]
  bud : Blk W (w.heap.size + 1 + 1) 3 #[.int .i64 ((b - pre.length : Nat) : Int)]
  r0 : Blk W (w.heap.size + 1 + 1 + 1) 79 #[.slice none 0 0]
  r1 : Blk W (w.heap.size + 1 + 1 + 1 + 1) 148 #[.string ⟨#[]⟩, .bool false]
  r2 : Blk W (w.heap.size + 1 + 1 + 1 + 1 + 1) 28 #[.int .i64 0]
  bel : Below w.heap.size w W
  size : bR ≤ W.heap.size
/-- when the budget is over ahead of the end -/
structure LX (acc : ByteArray → Bool) (w : World) (bR : Nat) (b : Nat) (pre : List ByteArray) (W : World) : Prop where
  res : ∃ p x V c, pre = p ++ [x] ∧ p.length = b ∧ Blk W (w.heap.size + 1 + 1 + 1) 79 #[.slice V (p.filter acc).length c] ∧ W.ownsRow bR 9 1 (.slice V (p.filter acc).length c) (p.filter acc).length ((p.filter acc).map Value.string) ∧
    Blk W (w.heap.size + 1 + 1 + 1 + 1) 148 #[.string x, .bool false]
  r2 : Blk W (w.heap.size + 1 + 1 + 1 + 1 + 1) 28 #[.int .i64 0]
  bel : Below w.heap.size w W
theorem below_keep {B n₀ : Nat} {w X Y : World} {row : Option Nat} (h : Below n₀ w X) (hn : n₀ ≤ w.heap.size) (hB : n₀ ≤ B) (hg : X.grownBy Y row) (hr : ∀ r, row = some r → B ≤ r ∧ ∃ o : Obj, X.heap[r]? = some o ∧ o.isCells = false) : Below n₀ w Y :=
  h.grown hg (Nat.le_trans hn h.size) fun k e => Nat.le_trans hB (hr k e).1
theorem LI.own {acc : ByteArray → Bool} {w : World} {bo bR : Nat} {gv : Value} {b B : Nat} (hB : w.heap.size ≤ B) : OwnFrom B (LI acc w bo bR gv b) := by
  intro pre X Y row h hg hr
  have hr' := fun r e => (hr r e).2
  obtain ⟨V, c, h1, h2⟩ := h.out
  exact ⟨h.le, ⟨V, c, blk_keep h1 hg hr', own_keep h2 hg hr'⟩, blk_keep h.gr hg hr', blk_keep h.bud hg hr', blk_keep h.r0 hg hr', blk_keep h.r1 hg hr', blk_keep h.r2 hg hr', below_keep h.bel (Nat.le_refl _) hB hg hr, Nat.le_trans h.size hg.size⟩
theorem LX.own {acc : ByteArray → Bool} {w : World} {bR b B : Nat} (hB : w.heap.size ≤ B) (c : Code) : OwnFrom B (fun pre W => c = .ret ∧ LX acc w bR b pre W) := by
  rintro pre X Y row ⟨rfl, h⟩ hg hr
  have hr' := fun r e => (hr r e).2
  obtain ⟨p, x, V, c, h1, h2, h3, h4, h5⟩ := h.res
  exact ⟨rfl, ⟨p, x, V, c, h1, h2, blk_keep h3 hg hr', own_keep h4 hg hr', blk_keep h5 hg hr'⟩, blk_keep h.r2 hg hr', below_keep h.bel (Nat.le_refl _) hB hg hr⟩
/-- what a part of a round keeps: the blocks that are no cells, and the iterator's boxes -/
structure KeepL (B bt : Nat) (W W' : World) : Prop where
  from_ : KeepsFrom B W W'
  t : KeepT bt W W'
theorem KeepL.refl (B bt : Nat) (W : World) : KeepL B bt W W := ⟨KeepsFrom.refl _ _, KeepT.refl _ _⟩
theorem KeepL.trans {B bt : Nat} {X Y Z : World} (h : KeepL B bt X Y) (h' : KeepL B bt Y Z) : KeepL B bt X Z := ⟨h.from_.trans h'.from_, h.t.trans h'.t⟩
theorem KeepL.below {B bt : Nat} {W W' : World} (h : Below W.heap.size W W') (hb : bt + 3 ≤ W.heap.size) : KeepL B bt W W' := ⟨KeepsFrom.of_grownBy (grown_of_below h none) (fun j e => by cases e), KeepT.below h hb⟩
theorem KeepL.set {B bt k : Nat} (W : World) (hk : k < bt) (hB : bt ≤ B) (j : Nat) (u : Value) : KeepL B bt W (W.setCell ⟨k, j, none⟩ u) :=
  ⟨KeepsFrom.of_grownBy (row := some k) ⟨rfl, rfl, rfl, by simp [World.setCell], fun q _ hne => Below.heap_setCell W ⟨k, j, none⟩ u q (by rintro rfl; exact hne rfl)⟩ (fun q e => by injection e with e; omega),
   ⟨by simp [World.setCell], fun q h1 h2 => Below.heap_setCell W ⟨k, j, none⟩ u q (by simp; omega)⟩⟩
theorem KeepL.app {B bt : Nat} {W W' : World} {base : Nat} {e : TypeId} {size : Nat} {v : Value} {n : Nat} {xs : List Value} (ho : W.ownsRow base e size v n xs) (hg : W.grownBy W' v.ownBlock) (hb : bt + 3 ≤ base) (hw : bt + 3 ≤ W.heap.size) : KeepL B bt W W' := by
  refine ⟨⟨hg.size, fun k o _ hk hc => (hg.block k (Array.getElem?_eq_some_iff.1 hk).1 fun e' => ?_).trans hk⟩, ⟨hg.size, fun k _ h2 => hg.block k (by omega) (own_ne ho (by omega))⟩⟩
  rcases ho.2 with ⟨rfl, _⟩ | ⟨g, cap, cur, rfl, _, hgb, _⟩
  · cases e'
  · have e2 : k = g := by injection e'
    subst e2
    rw [hgb] at hk
    cases hk
    cases hc
theorem own_setfar {W : World} {base : Nat} {e : TypeId} {size : Nat} {v : Value} {n : Nat} {xs : List Value} (h : W.ownsRow base e size v n xs) {k : Nat} (hk : k < base) (j : Nat) (u : Value) : (W.setCell ⟨k, j, none⟩ u).ownsRow base e size v n xs :=
  own_far h ⟨rfl, rfl, rfl, by simp [World.setCell], fun q _ hne => Below.heap_setCell W ⟨k, j, none⟩ u q (by rintro rfl; exact hne rfl)⟩ hk
end Go.Proofs.Ytkmcnekjimobhaa
