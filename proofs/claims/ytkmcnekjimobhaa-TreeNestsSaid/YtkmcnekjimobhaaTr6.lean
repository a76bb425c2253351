/- What event.Build holds in memory: the stack of what is open. -/
import Derived.Test.YtkmcnekjimobhaaTr4
import Derived.Test.YtkmcnekjimobhaaTrLaw
import Derived.Laws.OwnMore
namespace Go.Proofs.Ytkmcnekjimobhaa
open Go.RowKit

/-- the cells of trees, one behind the other -/
def KidsAre (w : World) (S : Nat → Prop) : List Tr → List Value → Prop
  | [], xs => xs = []
  | t :: ts, xs => ∃ c rest, xs = c ++ rest ∧ TrIs w S t c ∧ KidsAre w S ts rest
theorem KidsAre.snoc {w : World} {S : Nat → Prop} {t : Tr} {c : List Value} (ht : TrIs w S t c) : ∀ {ks : List Tr} {xs : List Value}, KidsAre w S ks xs → KidsAre w S (ks ++ [t]) (xs ++ c)
  | [], xs, h => by
    have h : xs = [] := h
    subst h
    exact ⟨c, [], by simp, ht, rfl⟩
  | t' :: ks, xs, h => by
    obtain ⟨c', rest, rfl, h1, h2⟩ := h
    exact ⟨c', rest ++ c, by simp, h1, h2.snoc ht⟩
theorem KidsAre.keep {w w' : World} {S S' : Nat → Prop} (hS : ∀ b, S b → S' b) (hk : ∀ p : Addr, S p.block → w'.cell? p = w.cell? p) : ∀ {ks : List Tr} {xs : List Value}, KidsAre w S ks xs → KidsAre w' S' ks xs
  | [], _, h => h
  | _ :: _, _, h => by
    obtain ⟨c, rest, rfl, h1, h2⟩ := h
    exact ⟨c, rest, rfl, h1.keep hS hk, KidsAre.keep hS hk h2⟩
theorem KidsAre.at_ {w : World} {S : Nat → Prop} : ∀ {ks : List Tr} {xs : List Value}, KidsAre w S ks xs → ∀ (i : Nat) (t : Tr), ks[i]? = some t → ∃ c, TrIs w S t c ∧ ∀ j u, c[j]? = some u → xs[i * 4 + j]? = some u
  | [], _, _, i, t, h => by simp at h
  | t' :: ks, xs, h, 0, t, ht => by
    obtain ⟨c, rest, rfl, h1, h2⟩ := h
    simp at ht
    subst ht
    exact ⟨c, h1, fun j u hu => by rw [Nat.zero_mul, Nat.zero_add, List.getElem?_append_left (getElem?_lt hu)]; exact hu⟩
  | t' :: ks, xs, h, i + 1, t, ht => by
    obtain ⟨c, rest, rfl, h1, h2⟩ := h
    obtain ⟨c', h3, h4⟩ := KidsAre.at_ h2 i t (by simpa using ht)
    have hl := h1.len
    exact ⟨c', h3, fun j u hu => by rw [List.getElem?_append_right (by omega), ← h4 j u hu, hl]; congr 1; omega⟩

/-- what is open: its cells (the first one opened ahead), and the blocks that hold their kids -/
def StackIs (w : World) (S : Nat → Prop) (base : Nat) : List Fr → List Value → List Nat → Prop
  | [], xs, used => xs = [] ∧ used = []
  | (r, f, ks) :: st, xs, used => ∃ ys A c kxs used', xs = ys ++ [.int .i64 r, .int .i64 f, .int .i64 0, .slice A ks.length c] ∧ w.ownsRow base 27 4 (.slice A ks.length c) ks.length kxs ∧ KidsAre w S ks kxs ∧
      used = (Value.slice A ks.length c).ownBlock.toList ++ used' ∧ StackIs w S base st ys used'
theorem own_heap {w w' : World} {base : Nat} {e : TypeId} {size : Nat} {v : Value} {n : Nat} {xs : List Value} (h : w.ownsRow base e size v n xs) (hk : ∀ b, v.ownBlock = some b → w'.heap[b]? = w.heap[b]?) : w'.ownsRow base e size v n xs := by
  refine ⟨h.1, h.2.imp id ?_⟩
  rintro ⟨g, cap, cur, rfl, h1, h2, h3⟩
  exact ⟨g, cap, cur, rfl, h1, (hk g rfl).trans h2, h3⟩
theorem StackIs.keep {w w' : World} {S S' : Nat → Prop} {base : Nat} (hS : ∀ b, S b → S' b) (hk : ∀ p : Addr, S p.block → w'.cell? p = w.cell? p) : ∀ {st : List Fr} {xs : List Value} {used : List Nat}, StackIs w S base st xs used → (∀ b ∈ used, w'.heap[b]? = w.heap[b]?) → StackIs w' S' base st xs used
  | [], _, _, h, _ => h
  | (r, f, ks) :: st, _, _, h, hu => by
    obtain ⟨ys, A, c, kxs, used', rfl, h1, h2, rfl, h3⟩ := h
    exact ⟨ys, A, c, kxs, used', rfl, own_heap h1 (fun b hb => hu b (by rw [hb]; simp)), h2.keep hS hk, rfl, StackIs.keep hS hk h3 fun b hb => hu b (by simp [hb])⟩
theorem StackIs.len {w : World} {S : Nat → Prop} {base : Nat} : ∀ {st : List Fr} {xs : List Value} {used : List Nat}, StackIs w S base st xs used → xs.length = st.length * 4
  | [], _, _, h => by rw [h.1]; rfl
  | (r, f, ks) :: st, _, _, h => by
    obtain ⟨ys, A, c, kxs, used', rfl, h1, h2, rfl, h3⟩ := h
    have := StackIs.len h3
    simp
    omega
theorem StackIs.lt {w : World} {S : Nat → Prop} {base : Nat} : ∀ {st : List Fr} {xs : List Value} {used : List Nat}, StackIs w S base st xs used → ∀ b ∈ used, base ≤ b ∧ b < w.heap.size
  | [], _, _, h => by rw [h.2]; simp
  | (r, f, ks) :: st, _, _, h => by
    obtain ⟨ys, A, c, kxs, used', rfl, h1, h2, rfl, h3⟩ := h
    intro b hb
    rcases List.mem_append.1 hb with hb | hb
    · exact h1.lt b (by simpa using hb)
    · exact StackIs.lt h3 b hb

/-- the memory of event.Build -/
structure BldMem (w : World) (base : Nat) (st : List Fr) (V : Option Addr) (m cp : Nat) (xs : List Value) (used : List Nat) (S : Nat → Prop) : Prop where
  cnt : m = st.length
  own : w.ownsRow base 27 4 (.slice V m cp) m xs
  stack : StackIs w S base st xs used
  nodup : used.Nodup
  ne : ∀ b ∈ used, some b ≠ (Value.slice V m cp).ownBlock
  sep : ∀ b, S b → b < w.heap.size ∧ b ∉ used ∧ some b ≠ (Value.slice V m cp).ownBlock
  low : ∀ b, S b → base ≤ b

theorem BldMem.below {w w' : World} {base : Nat} {st : List Fr} {V : Option Addr} {m cp : Nat} {xs : List Value} {used : List Nat} {S : Nat → Prop} (h : BldMem w base st V m cp xs used S) (hb : Below w.heap.size w w') : BldMem w' base st V m cp xs used S where
  cnt := h.cnt
  own := own_below h.own hb
  stack := h.stack.keep (fun _ h => h) (fun _ hp => hb.cell (h.sep _ hp).1) (fun b hu => hb.block b (h.stack.lt b hu).2)
  nodup := h.nodup
  ne := h.ne
  sep b hS := ⟨Nat.lt_of_lt_of_le (h.sep b hS).1 hb.size, (h.sep b hS).2⟩
  low := h.low
/-- one more is opened -/
theorem BldMem.push {w w' : World} {base : Nat} {st : List Fr} {V : Option Addr} {m cp : Nat} {xs : List Value} {used : List Nat} {S : Nat → Prop} (h : BldMem w base st V m cp xs used S) (r a : Int) {g cap : Nat}
    (hown : w'.ownsRow base 27 4 (.slice (some ⟨g, 0, none⟩) (m + 1) cap) (m + 1) (xs ++ [.int .i64 r, .int .i64 a, .int .i64 0, .slice none 0 0]))
    (hgrow : w.grownBy w' (Value.slice V m cp).ownBlock) (hat : (Value.slice V m cp).ownBlock = some g ∨ g = w.heap.size) :
    BldMem w' base ((r, a, []) :: st) (some ⟨g, 0, none⟩) (m + 1) cap (xs ++ [.int .i64 r, .int .i64 a, .int .i64 0, .slice none 0 0]) used S where
  cnt := by rw [h.cnt]; rfl
  own := hown
  stack := ⟨xs, none, 0, [], used, rfl, ⟨rfl, .inl ⟨rfl, rfl⟩⟩, rfl, by simp [Value.ownBlock], h.stack.keep (fun _ h => h) (fun _ hp => World.cell?_of_block (hgrow.block _ (h.sep _ hp).1 (h.sep _ hp).2.2)) (fun b hu => hgrow.block b (h.stack.lt b hu).2 (h.ne b hu))⟩
  nodup := h.nodup
  ne b hb e := by
    simp [Value.ownBlock] at e
    rcases hat with h1 | h1
    · exact h.ne b hb (by rw [h1, e])
    · have := (h.stack.lt b hb).2
      omega
  sep b hS := by
    obtain ⟨h1, h2, h3⟩ := h.sep b hS
    refine ⟨Nat.lt_of_lt_of_le h1 hgrow.size, h2, fun e => ?_⟩
    simp [Value.ownBlock] at e
    rcases hat with h4 | h4
    · exact h3 (by rw [h4, e])
    · omega
  low := h.low

/-- what is opened last, and what is left without it -/
theorem BldMem.pop {w : World} {base : Nat} {st : List Fr} {V : Option Addr} {m cp : Nat} {xs : List Value} {used : List Nat} {S : Nat → Prop} {r f : Int} {ks : List Tr} (h : BldMem w base ((r, f, ks) :: st) V m cp xs used S) :
    ∃ ys A c used' g, m = st.length + 1 ∧ V = some ⟨g, 0, none⟩ ∧ base ≤ g ∧ g < w.heap.size ∧ xs = ys ++ [.int .i64 r, .int .i64 f, .int .i64 0, .slice A ks.length c] ∧ ys.length = st.length * 4 ∧
      (∀ a : Int, TrIs w (fun b => S b ∨ some b = (Value.slice A ks.length c).ownBlock) (.mk r f a ks) [.int .i64 r, .int .i64 f, .int .i64 a, .slice A ks.length c]) ∧
      BldMem w base st V st.length cp ys used' (fun b => S b ∨ some b = (Value.slice A ks.length c).ownBlock) := by
  obtain ⟨hm, hown, ⟨ys, A, c, kxs, used', rfl, h1, h2, rfl, h3⟩, hnd, hne, hsep, hlow⟩ := h
  have hl := h3.len
  have hm' : m = st.length + 1 := hm
  obtain ⟨g, cap, hv, hg, hlt⟩ := hown.form (by omega)
  simp only [Value.slice.injEq] at hv
  obtain ⟨rfl, -, rfl⟩ := hv
  refine ⟨ys, A, c, used', g, hm', rfl, hg, hlt, rfl, hl, fun a => ?_, ?_⟩
  · have hb : 0 < ks.length → ∃ ad : Addr, A = some ad ∧ (S ad.block ∨ some ad.block = (Value.slice A ks.length c).ownBlock) := by
      intro h0
      obtain ⟨g', c', hv', _, _⟩ := h1.form h0
      simp only [Value.slice.injEq] at hv'
      obtain ⟨rfl, -, -⟩ := hv'
      exact ⟨_, rfl, .inr rfl⟩
    have hcap : ks.length ≤ c ∧ c ≤ maxLen := by
      rcases h1.2 with ⟨e, e2⟩ | ⟨g', c', cur, e, _, _, e1, e2, _⟩
      · simp only [Value.slice.injEq] at e
        rw [e.2.1, e.2.2]
        exact ⟨Nat.le_refl _, by unfold maxLen; omega⟩
      · simp only [Value.slice.injEq] at e
        rw [e.2.2]
        exact ⟨e1, e2⟩
    have hrow : ∀ i, i < ks.length → ∃ c, (∀ t, ks[i]? = some t → TrIs w S t c) ∧ ∀ j u, c[j]? = some u → kxs[i * 4 + j]? = some u := by
      intro i hi
      obtain ⟨c, hc1, hc2⟩ := h2.at_ i _ (List.getElem?_eq_getElem hi)
      exact ⟨c, fun t ht => by rw [List.getElem?_eq_getElem hi] at ht; injection ht with ht; rw [← ht]; exact hc1, hc2⟩
    obtain ⟨q, hq⟩ := @tr_row (List Value) ⟨[]⟩ _ _ hrow
    refine .mk r f a ks A c q hcap.1 hcap.2 hb (fun i t ht => ((hq i (getElem?_lt ht)).1 t ht).keep (fun b h => .inl h) (fun _ _ => rfl)) (fun i t ad ht hA j u hu => ?_)
    obtain ⟨g', c', hv', _, _⟩ := h1.form (by have := getElem?_lt ht; omega)
    simp only [Value.slice.injEq] at hv'
    rw [hA] at hv'
    obtain ⟨e, -, -⟩ := hv'
    injection e with e
    subst e
    subst hA
    have := h1.cells (g := g') rfl (i * 4 + j) u ((hq i (getElem?_lt ht)).2 j u hu)
    rw [add_add']
    exact this
  · refine ⟨rfl, ?_, h3.keep (fun b h => .inl h) (fun _ _ => rfl) (fun _ _ => rfl), (List.nodup_append.1 hnd).2.1, fun b hb => hne b (List.mem_append.2 (.inr hb)), ?_, fun b hb => hb.elim (hlow b) fun hb => (h1.lt b hb.symm).1⟩
    · refine ⟨by rw [hl], ?_⟩
      rcases hown.2 with ⟨e, _⟩ | ⟨g', c', cur, e, e1, e2, e3, e4, e5, e6⟩
      · cases e
      · simp only [Value.slice.injEq, Option.some.injEq, Addr.mk.injEq, and_true, true_and] at e
        obtain ⟨rfl, rfl⟩ := e
        refine .inr ⟨_, _, cur, rfl, e1, e2, by omega, e4, e5, ?_⟩
        have := congrArg (List.take (st.length * 4)) e6
        rw [List.take_take, Nat.min_eq_left (by omega), List.take_append_of_le_length (by omega), List.take_of_length_le (l := ys) (by omega)] at this
        exact this
    · intro b hb
      rcases hb with hb | hb
      · obtain ⟨q1, q2, q3⟩ := hsep b hb
        exact ⟨q1, fun h => q2 (List.mem_append.2 (.inr h)), q3⟩
      · have hmem : b ∈ (Value.slice A ks.length c).ownBlock.toList := by rw [← hb]; simp
        refine ⟨(h1.lt b hb.symm).2, fun hu => ?_, hne b (List.mem_append.2 (.inl hmem))⟩
        exact (List.nodup_append.1 hnd).2.2 b hmem b hu rfl
end Go.Proofs.Ytkmcnekjimobhaa
