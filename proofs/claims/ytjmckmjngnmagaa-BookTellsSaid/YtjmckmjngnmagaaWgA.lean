/- Grammars in which each body has a literal ahead: plain, and in memory while they are made. -/
import Derived.Test.YtjmckmjngnmagaaWhA
import Derived.Test.YtjmckmjngnmagaaMrH
import Derived.Test.YtjmckmjngnmagaaQSpl
namespace Go.Proofs.Ytjmckmjngnmagaa
open Go.RowKit Go.Maps

def litX : Ex := litE ⟨#[120]⟩
def guardG (g : List Rl) : List Rl := g.map fun r => (r.1, ofN 5 [litX, r.2])
theorem guard_len (g : List Rl) : (guardG g).length = g.length := by simp [guardG]
theorem guard_at {g : List Rl} {i : Nat} {r : Rl} (h : (guardG g)[i]? = some r) : ∃ r0, g[i]? = some r0 ∧ r = (r0.1, ofN 5 [litX, r0.2]) := by
  unfold guardG at h
  rw [List.getElem?_map, Option.map_eq_some_iff] at h
  obtain ⟨r0, h1, h2⟩ := h
  exact ⟨r0, h1, h2.symm⟩
theorem sound_guard (g : List Rl) (fs : List Fa) (kn : List Bool) (e : Ex) : soundE g fs kn (ofN 5 [litX, e]) = true := by
  have h1 : soundE g fs kn litX = true := by
    unfold litX litE
    rw [soundE, if_neg (by decide), if_neg (by decide), soundA]
  have h2 : (ofE g fs litX).e = false := by
    unfold litX litE
    rw [ofE, if_neg (by decide), if_neg (by decide), if_pos rfl]
  unfold ofN
  rw [soundE, if_neg (by decide), if_pos rfl, soundS, if_neg (by rw [h1]; decide), if_pos h2]
theorem left_none : ∀ (l : List Bool) (i : Nat), (∀ j, j < l.length → l[j]? = some true) → badLeft l i = none
  | [], _, _ => rfl
  | b :: l, i, h => by
    have h0 := h 0 (by simp)
    simp at h0
    subst h0
    rw [badLeft, if_neg (by decide)]
    exact left_none l (i + 1) fun j hj => by have := h (j + 1) (by simpa using hj); simpa using this
/-- it is never refused for a rule that comes to itself -/
theorem guard_well (g : List Rl) : (wellG (guardG g)).2 ≠ 8 ∧ ((wellG (guardG g)).2 = 0 ∨ (wellG (guardG g)).2 = 9 ∨ checkG (guardG g) ≠ 0) := by
  have hlt := check_lt (guardG g)
  unfold wellG
  by_cases h0 : checkG (guardG g) ≠ 0
  · rw [if_pos h0]
    exact ⟨by simp only; omega, .inr (.inr h0)⟩
  · rw [if_neg h0]
    cases badLoop (guardG g) (factsG (guardG g)) (guardG g) 0 with
    | some i => exact ⟨by simp, .inr (.inl rfl)⟩
    | none =>
      have hk : badLeft (knownG (guardG g) (factsG (guardG g))) 0 = none := by
        refine left_none _ _ fun j hj => ?_
        rw [known_len] at hj
        have := grow_fix (nxB_mono (guardG g) (factsG (guardG g)) (guardG g).length) (wtL boOrd (List.replicate (guardG g).length false) + 1) (List.replicate (guardG g).length false) (by simp) (low_zeroB _ _) (by omega) j hj
        rw [show knownG (guardG g) (factsG (guardG g)) = growG (nxB (guardG g) (factsG (guardG g))) (wtL boOrd (List.replicate (guardG g).length false) + 1) (List.replicate (guardG g).length false) from rfl, this]
        have hr : (guardG g)[j]? = some (guardG g)[j] := List.getElem?_eq_getElem hj
        obtain ⟨r0, _, h2⟩ := guard_at hr
        generalize growG (nxB (guardG g) (factsG (guardG g))) (wtL boOrd (List.replicate (guardG g).length false) + 1) (List.replicate (guardG g).length false) = kn
        unfold nxB
        rw [hr]
        simp only
        rw [h2, sound_guard]
      rw [hk]
      exact ⟨by simp, .inl rfl⟩

/-- a kid's array: a literal, an expression that was there -/
def twoX (rc : List Value) : List Value := exCells 3 0 0 0 0 ⟨#[120]⟩ none 0 0 ++ rc
/-- the grammar while it is made -/
structure GuI (A : Option Addr) (cp : Nat) (g : List Rl) (w : World) (nb : Nat) (V : Option Addr) (c : Nat) (row : Nat → List Value) (j : Nat) (W : World) : Prop where
  bel : Below w.heap.size w W
  gb : Blk W w.heap.size 24 #[.slice A g.length cp]
  nlo : w.heap.size < nb
  hb : Blk W nb 24 #[.slice V j c]
  own : W.ownsRow (nb + 1) 63 8 (.slice V j c) j (ruF (guardG (g.take j)) row 0)
  kids : ∀ (i : Nat) (r : Rl), (g.take j)[i]? = some r → ∃ kb rc, nb < kb ∧ row i = exCells 5 0 0 0 0 ⟨#[]⟩ (some ⟨kb, 0, none⟩) 2 2 ∧ ExIs w w.heap.size r.2 rc ∧ Blk W kb 35 (twoX rc).toArray
section
variable {A : Option Addr} {cp : Nat} {g : List Rl} {w : World} {nb : Nat} {V : Option Addr} {c : Nat} {row : Nat → List Value} {j : Nat} {W W' : World}
theorem GuI.below (h : GuI A cp g w nb V c row j W) (hb : Below W.heap.size W W') : GuI A cp g w nb V c row j W' :=
  ⟨h.bel.trans (hb.mono h.bel.size), h.gb.below hb h.gb.lt, h.nlo, h.hb.below hb h.hb.lt, own_below h.own hb, fun i r hr => by
    obtain ⟨kb, rc, h1, h2, h3, h4⟩ := h.kids i r hr
    exact ⟨kb, rc, h1, h2, h3, h4.below hb h4.lt⟩⟩
theorem GuI.alloc (h : GuI A cp g w nb V c row j W) (o : Obj) : GuI A cp g w nb V c row j (W.alloc o) := h.below ((Below.refl _ _).alloc (Nat.le_refl _) o)
theorem GuI.drew (h : GuI A cp g w nb V c row j W) : GuI A cp g w nb V c row j W.drew := h.below (Below.refl _ _).drew
theorem own_ne_ty {w : World} {base n size k : Nat} {e T : TypeId} {v : Value} {xs : List Value} {cs : Array Value} (hb : Blk w k T cs) (ho : w.ownsRow base e size v n xs) (hT : T ≠ e) : some k ≠ v.ownBlock := own_ne_t hb ho hT
/-- one rule more -/
theorem GuI.push {V' : Option Addr} {c' : Nat} {r : Rl} {kb : Nat} {rc : List Value} (h : GuI A cp g w nb V c row j W) (hr : g[j]? = some r) (hlo : nb < kb) (hE : ExIs w w.heap.size r.2 rc) (hk : Blk W kb 35 (twoX rc).toArray)
    (hown : W'.ownsRow (nb + 1) 63 8 (.slice V' (j + 1) c') (j + 1) (ruF (guardG (g.take j)) row 0 ++ (.string r.1 :: exCells 5 0 0 0 0 ⟨#[]⟩ (some ⟨kb, 0, none⟩) 2 2))) (hg : W.grownBy W' (Value.slice V j c).ownBlock) :
    GuI A cp g w nb V' c' (fun i => if i = j then exCells 5 0 0 0 0 ⟨#[]⟩ (some ⟨kb, 0, none⟩) 2 2 else row i) (j + 1) (W'.setCell ⟨nb, 0, none⟩ (.slice V' (j + 1) c')) := by
  have hjl := getElem?_lt hr
  have hn1 := own_ne_ty h.gb h.own (by decide)
  have hn2 := own_ne_ty h.hb h.own (by decide)
  have hlow : Below w.heap.size W W' := ⟨hg.os, hg.tape, hg.output, hg.size, fun k hk => hg.block k (by have := h.bel.size; omega) fun e => by
    have h1 := h.own.lt k e.symm
    have := h.nlo
    omega⟩
  have hgb := h.gb.grown hg hn1
  have hhb := h.hb.grown hg hn2
  have hgs : W'.grownBy (W'.setCell ⟨nb, 0, none⟩ (.slice V' (j + 1) c')) (some nb) := ⟨rfl, rfl, rfl, by simp [World.setCell], fun q hq hne => Below.heap_setCell W' ⟨nb, 0, none⟩ _ q (by rintro rfl; exact hne rfl)⟩
  have htl : (g.take j).length = j := by simp; omega
  have hrow : ruF (guardG (g.take (j + 1))) (fun i => if i = j then exCells 5 0 0 0 0 ⟨#[]⟩ (some ⟨kb, 0, none⟩) 2 2 else row i) 0 = ruF (guardG (g.take j)) row 0 ++ (.string r.1 :: exCells 5 0 0 0 0 ⟨#[]⟩ (some ⟨kb, 0, none⟩) 2 2) := by
    rw [take_succ_of hr]
    unfold guardG
    rw [List.map_append, ruF_app, List.length_map, htl, List.map_cons, List.map_nil, ruF, ruF, List.append_nil, Nat.zero_add, if_pos rfl]
    rw [ruF_same (List.map (fun r => (r.1, ofN 5 [litX, r.2])) (g.take j)) _ row 0 (fun i hi => by
      rw [List.length_map, htl] at hi
      rw [if_neg (by omega)])]
  refine ⟨(h.bel.trans hlow).setCell (by have := h.nlo; simp; omega) _, hgb.far (by have := h.nlo; simp; omega) _, h.nlo, hhb.set_ 0 _, ?_, fun i r' hr' => ?_⟩
  · rw [hrow]
    exact own_far hown hgs (Nat.lt_succ_self nb)
  · rw [take_succ_of hr] at hr'
    by_cases hi : i < j
    · rw [List.getElem?_append_left (by omega)] at hr'
      obtain ⟨kb', rc', h1, h2, h3, h4⟩ := h.kids i r' hr'
      exact ⟨kb', rc', h1, by rw [if_neg (by omega)]; exact h2, h3, (h4.grown hg (own_ne_ty h4 h.own (by decide))).far (by simp; omega) _⟩
    · rw [List.getElem?_append_right (by omega), htl] at hr'
      have hij : i = j := by have := getElem?_lt hr'; simp at this; omega
      subst hij
      rw [Nat.sub_self] at hr'
      simp at hr'
      subst hr'
      exact ⟨kb, rc, hlo, by rw [if_pos rfl], hE, (hk.grown hg (own_ne_ty hk h.own (by decide))).far (by simp; omega) _⟩
/-- the grammar that was made -/
theorem GuI.gr {row0 : Nat → List Value} (h : GuI A cp g w nb V c row g.length W) (hG : GrIs w w.heap.size g A cp row0) : GrIs W W.heap.size (guardG g) V c row := by
  have hl := guard_len g
  have ho := h.own
  rw [List.take_length] at ho
  refine gr_own (base := nb + 1) (by rw [hl]; exact ho) (fun r hr => ?_) fun i r hr => ?_
  · obtain ⟨i, hi⟩ := List.getElem?_of_mem hr
    obtain ⟨r0, h1, rfl⟩ := guard_at hi
    exact hG.small i r0 h1
  · obtain ⟨r0, h1, rfl⟩ := guard_at hr
    obtain ⟨kb, rc, h2, h3, h4, h5⟩ := h.kids i r0 (by rw [List.take_length]; exact h1)
    rw [h3]
    exact ex_two (litE_is W _ (by decide)) (h4.grow h.bel) h5 (by simp [twoX]) 5
end
end Go.Proofs.Ytjmckmjngnmagaa
