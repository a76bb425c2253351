/- Expressions that rest on blocks of S alone: their kids, their kids under another node; rows of kids put together. -/
import Derived.Test.YtkmcnekjimobhaaJTopRoads14
namespace Go.Proofs.Ytkmcnekjimobhaa
set_option maxRecDepth 100000
open Go.RowKit
theorem ExIs.re {w : World} {B : Nat} {k a b c d : Int} {t : ByteArray} {ks : List Ex} {A : Option Addr} {n cp : Nat} (h : ExIs w B (.mk k a b c d t ks) (exCells k a b c d t A n cp)) (k' a' b' c' d' : Int) {t' : ByteArray} (ht : t'.size <= maxLen) :
    ExIs w B (.mk k' a' b' c' d' t' ks) (exCells k' a' b' c' d' t' A n cp) := by
  have hlen := h.len.1
  subst hlen
  generalize he : exCells k a b c d t A ks.length cp = cs at h
  cases h with
  | mk _ _ _ _ _ _ _ A0 cp0 row _ hl hm hnone hb hr hc =>
    simp only [exCells, List.cons.injEq, Value.slice.injEq, true_and, and_true] at he
    obtain ⟨rfl, rfl⟩ := he
    exact .mk k' a' b' c' d' t' ks A cp row ht hl hm hnone hb hr hc
section
variable {S : Nat -> Prop} {hi : Nat} {W : World} {k a b c d : Int} {t : ByteArray} {ks : List Ex} {A : Option Addr} {n cp : Nat}
theorem ExF.re (h : ExF S hi W (.mk k a b c d t ks) (exCells k a b c d t A n cp)) (k' a' b' c' d' : Int) {t' : ByteArray} (ht : t'.size <= maxLen) : ExF S hi W (.mk k' a' b' c' d' t' ks) (exCells k' a' b' c' d' t' A n cp) := fun X hX => (h X hX).re k' a' b' c' d' ht
theorem ExF.row (h : ExF S hi W (.mk k a b c d t ks) (exCells k a b c d t A n cp)) (h0 : 0 < ks.length) : ∃ ad : Addr, A = some ad /\ ad.block < hi /\ S ad.block := by
  obtain ⟨ad, k', a', b', c', d', t', ks', A', cp', rfl, hab, hej, hx, hS⟩ := h.is.kid h0
  refine ⟨ad, rfl, hab, ?_⟩
  refine Classical.byContradiction fun hn => ?_
  have h1 := h (W.setCell (ad.add (0 * 7)) (.bool true)) fun p hp => World.cell?_setCell_other W _ p _ (by rintro rfl; rw [add_block] at hp; exact hn hp)
  obtain ⟨ad2, k2, a2, b2, c2, d2, t2, ks2, A2, cp2, hA, _, _, _, hS2⟩ := h1.kid h0
  injection hA with hA
  subst hA
  have h2 := hS2.c0
  rw [World.cell?_setCell_same _ _ _ hS.c0] at h2
  cases h2
theorem ExF.kid (h : ExF S hi W (.mk k a b c d t ks) (exCells k a b c d t A n cp)) {j : Nat} (hj : j < ks.length) :
    ∃ (ad : Addr) (k' a' b' c' d' : Int) (t' : ByteArray) (ks' : List Ex) (A' : Option Addr) (cp' : Nat), A = some ad /\ ad.block < hi /\ S ad.block /\ ks[j]? = some (.mk k' a' b' c' d' t' ks') /\
      ExF S hi W (.mk k' a' b' c' d' t' ks') (exCells k' a' b' c' d' t' A' ks'.length cp') /\ Seven W (ad.add (j * 7)) k' a' b' c' d' t' A' ks'.length cp' := by
  obtain ⟨ad0, h1, _, hSb⟩ := h.row (by omega)
  obtain ⟨ad, k', a', b', c', d', t', ks', A', cp', hA, hab, hej, hx, hS⟩ := h.is.kid hj
  rw [hA] at h1
  injection h1 with h1
  subst h1
  subst hA
  refine ⟨ad, k', a', b', c', d', t', ks', A', cp', rfl, hab, hSb, hej, fun X hX => ?_, hS⟩
  obtain ⟨ad2, k2, a2, b2, c2, d2, t2, ks2, A2, cp2, hA2, _, hej2, hx2, hS2⟩ := (h X hX).kid hj
  injection hA2 with hA2
  subst hA2
  rw [hej] at hej2
  injection hej2 with hej2
  injection hej2 with e1 e2 e3 e4 e5 e6 e7
  subst e1 e2 e3 e4 e5 e6 e7
  have h2 := hS2.c6
  rw [hX _ (by show S (ad.add (j * 7)).block; rw [add_block]; exact hSb), hS.c6] at h2
  simp only [Option.some.injEq, Value.slice.injEq, true_and] at h2
  rw [h2.1, h2.2]
  exact hx2
theorem ExF.rows (h : ExF S hi W (.mk k a b c d t ks) (exCells k a b c d t A n cp)) : ∃ rows : Nat -> List Value, (∀ i e, ks[i]? = some e -> ExF S hi W e (rows i)) /\ (∀ i, i < ks.length -> (rows i).length = 7) /\ ∀ ad, A = some ad -> ∀ j u, (kdF rows ks.length)[j]? = some u -> W.cell? (ad.add j) = some u := by
  have hk : ∀ i, i < ks.length -> ∃ r : List Value, (∀ e, ks[i]? = some e -> ExF S hi W e r) /\ r.length = 7 /\ ∀ ad, A = some ad -> ∀ j u, r[j]? = some u -> W.cell? ((ad.add (i * 7)).add j) = some u := fun i hi' => by
    obtain ⟨ad, k', a', b', c', d', t', ks', A', cp', rfl, hab, hSb, hej, hx, hS⟩ := h.kid hi'
    refine ⟨exCells k' a' b' c' d' t' A' ks'.length cp', fun e he => by rw [hej] at he; injection he with he; rw [<- he]; exact hx, rfl, fun ad2 hA j u hu => ?_⟩
    injection hA with hA
    subst hA
    match j, hu with
    | 0, hu => simp [exCells] at hu; subst hu; exact hS.c0
    | 1, hu => simp [exCells] at hu; subst hu; exact hS.c1
    | 2, hu => simp [exCells] at hu; subst hu; exact hS.c2
    | 3, hu => simp [exCells] at hu; subst hu; exact hS.c3
    | 4, hu => simp [exCells] at hu; subst hu; exact hS.c4
    | 5, hu => simp [exCells] at hu; subst hu; exact hS.c5
    | 6, hu => simp [exCells] at hu; subst hu; exact hS.c6
    | j + 7, hu => simp [exCells] at hu
  have hk' : ∀ i, ∃ r : List Value, i < ks.length -> (∀ e, ks[i]? = some e -> ExF S hi W e r) /\ r.length = 7 /\ ∀ ad, A = some ad -> ∀ j u, r[j]? = some u -> W.cell? ((ad.add (i * 7)).add j) = some u := fun i => by
    by_cases hi' : i < ks.length
    · obtain ⟨r, hr⟩ := hk i hi'
      exact ⟨r, fun _ => hr⟩
    · exact ⟨[], fun h => absurd h hi'⟩
  refine ⟨fun i => Classical.choose (hk' i), fun i e he => (Classical.choose_spec (hk' i) (getElem?_lt he)).1 e he, fun i hi' => (Classical.choose_spec (hk' i) hi').2.1, fun ad hA j u hu => ?_⟩
  have h7 : ∀ i, i < ks.length -> (Classical.choose (hk' i)).length = 7 := fun i hi' => (Classical.choose_spec (hk' i) hi').2.1
  have hj := getElem?_lt hu
  rw [kdF_len h7] at hj
  have hd : j / 7 < ks.length := by omega
  obtain ⟨v, hv⟩ : ∃ v, (Classical.choose (hk' (j / 7)))[j % 7]? = some v := ⟨_, List.getElem?_eq_getElem (by rw [h7 _ hd]; omega)⟩
  have h1 := kdF_get h7 hd hv
  rw [show j / 7 * 7 + j % 7 = j by omega, hu] at h1
  injection h1 with h1
  subst h1
  have h2 := (Classical.choose_spec (hk' (j / 7)) hd).2.2 ad hA _ _ hv
  rw [add_add'] at h2
  rw [show j = j / 7 * 7 + j % 7 by omega]
  exact h2
end
theorem kdF_app {rows rows' : Nat -> List Value} {n : Nat} : ∀ m, kdF (fun i => if i < n then rows i else rows' (i - n)) (n + m) = kdF rows n ++ kdF rows' m
  | 0 => by
    rw [Nat.add_zero, kdF, List.append_nil]
    exact kdF_same fun i hi => if_pos hi
  | m + 1 => by
    rw [<- Nat.add_assoc, kdF, kdF_app m, if_neg (by omega), show n + m - n = m by omega, kdF, List.append_assoc]
section
variable {base : Nat} {W W' : World} {es : List Ex} {V : Option Addr} {c : Nat} {rows : Nat -> List Value}
theorem Kids.app {V' : Option Addr} {c' : Nat} {es' : List Ex} {rows' : Nat -> List Value} (h : Kids base W es V c rows) (hE : ∀ i e, es'[i]? = some e -> ExF (fun b => base <= b /\ b < W.heap.size /\ some b ≠ (Value.slice V es.length c).ownBlock) W.heap.size W e (rows' i))
    (hown : W'.ownsRow base 37 7 (.slice V' (es.length + es'.length) c') (es.length + es'.length) (kdF rows es.length ++ kdF rows' es'.length)) (hg : W.grownBy W' (Value.slice V es.length c).ownBlock)
    (hat : (Value.slice V' (es.length + es'.length) c').ownBlock = (Value.slice V es.length c).ownBlock \/ (Value.slice V' (es.length + es'.length) c').ownBlock = some W.heap.size) :
    Kids base W' (es ++ es') V' c' (fun i => if i < es.length then rows i else rows' (i - es.length)) := by
  have hl : (es ++ es').length = es.length + es'.length := by simp
  have hne : ∀ b, b < W.heap.size -> some b ≠ (Value.slice V es.length c).ownBlock -> some b ≠ (Value.slice V' (es.length + es'.length) c').ownBlock := fun b hb hne => by
    rcases hat with h1 | h1
    · rw [h1]; exact hne
    · rw [h1]; intro e; injection e with e; omega
  have hkeep : ∀ p : Addr, p.block < W.heap.size -> some p.block ≠ (Value.slice V es.length c).ownBlock -> W'.cell? p = W.cell? p := fun p h1 h2 => World.cell?_of_block (hg.block p.block h1 h2)
  constructor
  · rw [hl, kdF_app]
    exact hown
  · intro i x hx
    rw [hl]
    by_cases hi : i < es.length
    · rw [List.getElem?_append_left hi] at hx
      rw [if_pos hi]
      exact ((h.kid i x hx).keep (W' := W') fun p hp => hkeep p hp.2.1 hp.2.2).mono (fun b hb => ⟨hb.1, Nat.lt_of_lt_of_le hb.2.1 hg.size, hne b hb.2.1 hb.2.2⟩) hg.size
    · rw [List.getElem?_append_right (by omega)] at hx
      rw [if_neg hi]
      exact ((hE _ x hx).keep (W' := W') fun p hp => hkeep p hp.2.1 hp.2.2).mono (fun b hb => ⟨hb.1, Nat.lt_of_lt_of_le hb.2.1 hg.size, hne b hb.2.1 hb.2.2⟩) hg.size
theorem Kids.but (h : Kids base W es V c rows) {mb : Nat} (hm : mb < base) (hg : W.grownBy W' (some mb)) : Kids base W' es V c rows := by
  have hkeep : ∀ p : Addr, base <= p.block -> p.block < W.heap.size -> W'.cell? p = W.cell? p := fun p h1 h2 => World.cell?_of_block (hg.block p.block h2 (by intro e; injection e with e; omega))
  refine ⟨h.own.kept hg ?_, fun i e he => ((h.kid i e he).keep (W' := W') fun p hp => hkeep p hp.1 hp.2.1).mono (fun b hb => ⟨hb.1, Nat.lt_of_lt_of_le hb.2.1 hg.size, hb.2.2⟩) hg.size⟩
  rcases hv : (Value.slice V es.length c).ownBlock with _ | q
  · exact .inl rfl
  · have := (h.own.lt q hv).1
    exact .inr fun e => by injection e with e; omega
end
end Go.Proofs.Ytkmcnekjimobhaa
