/- What event.Build holds in memory behind a tree that came to the kids of what is open. -/
import Derived.Test.YtphfckihdhmhpaaTr7
namespace Go.Proofs.Ytphfckihdhmhpaa
open Go.RowKit

theorem set_last (ys : List Value) (a b c u x : Value) {j : Nat} (hj : ys.length + 3 = j) : (ys ++ [a, b, c, x]).set j u = ys ++ [a, b, c, u] := by
  subst hj
  rw [List.set_append_right _ _ (by omega), Nat.add_sub_cancel_left]
  rfl
theorem set_four (ys : List Value) (a b c d p q r s : Value) {j : Nat} (hj : ys.length = j) : ((((ys ++ [a, b, c, d]).set j p).set (j + 1) q).set (j + 2) r).set (j + 3) s = ys ++ [p, q, r, s] := by
  subst hj
  rw [List.set_append_right _ _ (by omega), Nat.sub_self]
  simp only [List.set_cons_zero]
  rw [List.set_append_right _ _ (by omega), Nat.add_sub_cancel_left]
  simp only [List.set_cons_succ, List.set_cons_zero]
  rw [List.set_append_right _ _ (by omega), Nat.add_sub_cancel_left]
  simp only [List.set_cons_succ, List.set_cons_zero]
  rw [List.set_append_right _ _ (by omega), Nat.add_sub_cancel_left]
  rfl

section
variable {w : World} {base : Nat} {r f : Int} {ks : List Tr} {st : List Fr} {g : Nat} {m cp : Nat} {ys : List Value} {A : Option Addr} {c : Nat} {kxs : List Value} {used : List Nat} {S : Nat → Prop} {wa w1 : World} {g1 cap1 : Nat} {t : Tr} {tc zc : List Value}

theorem BldTop.below {V : Option Addr} {w' : World} (h : BldTop w base r f ks st V m cp ys A c kxs used S) (hb : Below w.heap.size w w') : BldTop w' base r f ks st V m cp ys A c kxs used S where
  cnt := h.cnt
  own := own_below h.own hb
  kown := own_below h.kown hb
  kids := h.kids.keep (fun _ h => h) (fun _ hp => hb.cell (h.sep _ hp).1)
  stack := h.stack.keep (fun _ h => h) (fun _ hp => hb.cell (h.sep _ hp).1) (fun b hu => hb.block b (h.stack.lt b hu).2)
  nodup := h.nodup
  ne := h.ne
  sep b hS := ⟨Nat.lt_of_lt_of_le (h.sep b hS).1 hb.size, (h.sep b hS).2⟩
  low := h.low
theorem BldTop.ne_row (h : BldTop w base r f ks st (some ⟨g, 0, none⟩) m cp ys A c kxs used S) : some g ≠ (Value.slice A ks.length c).ownBlock := by
  intro e
  exact h.ne g (List.mem_append.2 (.inl (by rw [← e]; simp))) rfl
theorem BldTop.lt (h : BldTop w base r f ks st (some ⟨g, 0, none⟩) m cp ys A c kxs used S) : base ≤ g ∧ g < w.heap.size := h.own.lt g rfl
theorem BldTop.ylen (h : BldTop w base r f ks st (some ⟨g, 0, none⟩) m cp ys A c kxs used S) : ys.length = st.length * 4 := h.stack.len

/-- the row of what is open, behind the growth of the last one's kids -/
theorem BldTop.own1 (h : BldTop w base r f ks st (some ⟨g, 0, none⟩) m cp ys A c kxs used S) (hwa : Below w.heap.size w wa) (hgrow : wa.grownBy w1 (Value.slice A ks.length c).ownBlock) :
    w1.ownsRow base 42 4 (.slice (some ⟨g, 0, none⟩) m cp) m (ys ++ [.int .i64 r, .int .i64 f, .int .i64 0, .slice A ks.length c]) :=
  own_heap h.own fun b hb => by
    simp [Value.ownBlock] at hb
    subst hb
    have := h.lt
    exact (hgrow.block g (Nat.lt_of_lt_of_le this.2 hwa.size) h.ne_row).trans (hwa.block g this.2)
theorem BldTop.ne1 (h : BldTop w base r f ks st (some ⟨g, 0, none⟩) m cp ys A c kxs used S) (hwa : Below w.heap.size w wa) (hat : (Value.slice A ks.length c).ownBlock = some g1 ∨ g1 = wa.heap.size) : g1 ≠ g := by
  have h1 := h.lt
  have h2 := h.ne_row
  have h3 := hwa.size
  rintro rfl
  rcases hat with e | e
  · exact h2 e.symm
  · omega

theorem BldTop.kid20 (h : BldTop w base r f ks st (some ⟨g, 0, none⟩) m cp ys A c kxs used S) (ht : TrIs w S t tc) (hwa : Below w.heap.size w wa)
    (hown1 : w1.ownsRow base 42 4 (.slice (some ⟨g1, 0, none⟩) (ks.length + 1) cap1) (ks.length + 1) (kxs ++ tc)) (hgrow : wa.grownBy w1 (Value.slice A ks.length c).ownBlock)
    (hat : (Value.slice A ks.length c).ownBlock = some g1 ∨ g1 = wa.heap.size) {p : Nat} (hp : st.length = p) :
    BldMem (w1.setCell ⟨g, p * 4 + 3, none⟩ (.slice (some ⟨g1, 0, none⟩) (ks.length + 1) cap1)) base ((r, f, ks ++ [t]) :: st) (some ⟨g, 0, none⟩) m cp
      (ys ++ [.int .i64 r, .int .i64 f, .int .i64 0, .slice (some ⟨g1, 0, none⟩) (ks.length + 1) cap1]) (g1 :: used) S := by
  subst hp
  have hne := h.ne1 hwa hat
  have hs := (h.own1 hwa hgrow).stored (st.length * 4 + 3) (.slice (some ⟨g1, 0, none⟩) (ks.length + 1) cap1)
  rw [set_last _ _ _ _ _ _ (by rw [h.ylen])] at hs
  refine h.kid ht (hat.imp id fun e => by rw [e]; exact hwa.size) ?_ hs.1 (Nat.le_trans hwa.size (Nat.le_trans hgrow.size hs.2.size)) fun b hb hb1 hb2 => ?_
  · exact own_heap hown1 fun b hb => by
      simp [Value.ownBlock] at hb
      subst hb
      exact Below.heap_setCell _ _ _ _ hne
  · have hbg : b ≠ g := fun e => hb1 (by rw [e]; rfl)
    exact (Below.heap_setCell _ _ _ _ hbg).trans ((hgrow.block b (Nat.lt_of_lt_of_le hb hwa.size) hb2).trans (hwa.block b hb))

theorem BldTop.kid18 (h : BldTop w base r f ks st (some ⟨g, 0, none⟩) m cp ys A c kxs used S) {v0 v1 v2 v3 z0 z1 z2 z3 : Value} (ht : TrIs w S t [v0, v1, v2, v3]) (hwa : Below w.heap.size w wa)
    (hown1 : w1.ownsRow base 42 4 (.slice (some ⟨g1, 0, none⟩) (ks.length + 1) cap1) (ks.length + 1) (kxs ++ [z0, z1, z2, z3])) (hgrow : wa.grownBy w1 (Value.slice A ks.length c).ownBlock)
    (hat : (Value.slice A ks.length c).ownBlock = some g1 ∨ g1 = wa.heap.size) {p n : Nat} (hp : st.length = p) (hn : ks.length = n) :
    BldMem (((((w1.setCell ⟨g, p * 4 + 3, none⟩ (.slice (some ⟨g1, 0, none⟩) (n + 1) cap1)).setCell ⟨g1, n * 4, none⟩ v0).setCell ⟨g1, n * 4 + 1, none⟩ v1).setCell ⟨g1, n * 4 + 2, none⟩ v2).setCell ⟨g1, n * 4 + 3, none⟩ v3) base ((r, f, ks ++ [t]) :: st) (some ⟨g, 0, none⟩) m cp
      (ys ++ [.int .i64 r, .int .i64 f, .int .i64 0, .slice (some ⟨g1, 0, none⟩) (n + 1) cap1]) (g1 :: used) S := by
  subst hp
  subst hn
  have hne := h.ne1 hwa hat
  have hl := h.kown.1
  have hs := (h.own1 hwa hgrow).stored (st.length * 4 + 3) (.slice (some ⟨g1, 0, none⟩) (ks.length + 1) cap1)
  rw [set_last _ _ _ _ _ _ (by rw [h.ylen])] at hs
  have hk0 : (w1.setCell ⟨g, st.length * 4 + 3, none⟩ (.slice (some ⟨g1, 0, none⟩) (ks.length + 1) cap1)).ownsRow base 42 4 (.slice (some ⟨g1, 0, none⟩) (ks.length + 1) cap1) (ks.length + 1) (kxs ++ [z0, z1, z2, z3]) :=
    own_heap hown1 fun b hb => by
      simp [Value.ownBlock] at hb
      subst hb
      exact Below.heap_setCell _ _ _ _ hne
  have hk1 := (((hk0.stored (ks.length * 4) v0).1.stored (ks.length * 4 + 1) v1).1.stored (ks.length * 4 + 2) v2).1.stored (ks.length * 4 + 3) v3
  rw [set_four _ _ _ _ _ _ _ _ _ hl] at hk1
  have hfar : ∀ b, b ≠ g1 → (((((w1.setCell ⟨g, st.length * 4 + 3, none⟩ (.slice (some ⟨g1, 0, none⟩) (ks.length + 1) cap1)).setCell ⟨g1, ks.length * 4, none⟩ v0).setCell ⟨g1, ks.length * 4 + 1, none⟩ v1).setCell ⟨g1, ks.length * 4 + 2, none⟩ v2).setCell ⟨g1, ks.length * 4 + 3, none⟩ v3).heap[b]? = (w1.setCell ⟨g, st.length * 4 + 3, none⟩ (.slice (some ⟨g1, 0, none⟩) (ks.length + 1) cap1)).heap[b]? := fun b hb => by
    rw [Below.heap_setCell _ _ _ _ hb, Below.heap_setCell _ _ _ _ hb, Below.heap_setCell _ _ _ _ hb, Below.heap_setCell _ _ _ _ hb]
  refine h.kid ht (hat.imp id fun e => by rw [e]; exact hwa.size) hk1.1 ?_ ?_ fun b hb hb1 hb2 => ?_
  · exact own_heap hs.1 fun b hb => by
      simp [Value.ownBlock] at hb
      subst hb
      exact hfar _ (Ne.symm hne)
  · have := Nat.le_trans hwa.size (Nat.le_trans hgrow.size hs.2.size)
    simpa using this
  · have hbg : b ≠ g := fun e => hb1 (by rw [e]; rfl)
    have hb3 : b ≠ g1 := by
      rintro rfl
      rcases hat with e | e
      · exact hb2 e.symm
      · have := hwa.size
        omega
    exact (hfar b hb3).trans ((Below.heap_setCell _ _ _ _ hbg).trans ((hgrow.block b (Nat.lt_of_lt_of_le hb hwa.size) hb2).trans (hwa.block b hb)))
end
end Go.Proofs.Ytphfckihdhmhpaa
