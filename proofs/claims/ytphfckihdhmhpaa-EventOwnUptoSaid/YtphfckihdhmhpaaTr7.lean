/- What event.Build holds in memory: a tree comes to the kids of what is open. -/
import Derived.Test.YtphfckihdhmhpaaTr6
namespace Go.Proofs.Ytphfckihdhmhpaa
open Go.RowKit

structure BldTop (w : World) (base : Nat) (r f : Int) (ks : List Tr) (st : List Fr) (V : Option Addr) (m cp : Nat) (ys : List Value) (A : Option Addr) (c : Nat) (kxs : List Value) (used : List Nat) (S : Nat → Prop) : Prop where
  cnt : m = st.length + 1
  own : w.ownsRow base 42 4 (.slice V m cp) m (ys ++ [.int .i64 r, .int .i64 f, .int .i64 0, .slice A ks.length c])
  kown : w.ownsRow base 42 4 (.slice A ks.length c) ks.length kxs
  kids : KidsAre w S ks kxs
  stack : StackIs w S base st ys used
  nodup : ((Value.slice A ks.length c).ownBlock.toList ++ used).Nodup
  ne : ∀ b ∈ (Value.slice A ks.length c).ownBlock.toList ++ used, some b ≠ (Value.slice V m cp).ownBlock
  sep : ∀ b, S b → b < w.heap.size ∧ b ∉ (Value.slice A ks.length c).ownBlock.toList ++ used ∧ some b ≠ (Value.slice V m cp).ownBlock
  low : ∀ b, S b → base ≤ b

theorem BldMem.top {w : World} {base : Nat} {r f : Int} {ks : List Tr} {st : List Fr} {V : Option Addr} {m cp : Nat} {xs : List Value} {used : List Nat} {S : Nat → Prop} (h : BldMem w base ((r, f, ks) :: st) V m cp xs used S) :
    ∃ ys A c kxs used', xs = ys ++ [.int .i64 r, .int .i64 f, .int .i64 0, .slice A ks.length c] ∧ BldTop w base r f ks st V m cp ys A c kxs used' S := by
  obtain ⟨hm, hown, ⟨ys, A, c, kxs, used', rfl, h1, h2, rfl, h3⟩, hnd, hne, hsep, hlow⟩ := h
  exact ⟨ys, A, c, kxs, used', rfl, hm, hown, h1, h2, h3, hnd, hne, hsep, hlow⟩

theorem BldTop.kid {w w2 : World} {base : Nat} {r f : Int} {ks : List Tr} {st : List Fr} {V : Option Addr} {m cp : Nat} {ys : List Value} {A : Option Addr} {c : Nat} {kxs : List Value} {used : List Nat} {S : Nat → Prop}
    (h : BldTop w base r f ks st V m cp ys A c kxs used S) {t : Tr} {tc : List Value} (ht : TrIs w S t tc) {g1 cap1 : Nat} (hat : (Value.slice A ks.length c).ownBlock = some g1 ∨ w.heap.size ≤ g1)
    (hk : w2.ownsRow base 42 4 (.slice (some ⟨g1, 0, none⟩) (ks.length + 1) cap1) (ks.length + 1) (kxs ++ tc))
    (ho : w2.ownsRow base 42 4 (.slice V m cp) m (ys ++ [.int .i64 r, .int .i64 f, .int .i64 0, .slice (some ⟨g1, 0, none⟩) (ks.length + 1) cap1]))
    (hsz : w.heap.size ≤ w2.heap.size) (hkeep : ∀ b, b < w.heap.size → some b ≠ (Value.slice V m cp).ownBlock → some b ≠ (Value.slice A ks.length c).ownBlock → w2.heap[b]? = w.heap[b]?) :
    BldMem w2 base ((r, f, ks ++ [t]) :: st) V m cp (ys ++ [.int .i64 r, .int .i64 f, .int .i64 0, .slice (some ⟨g1, 0, none⟩) (ks.length + 1) cap1]) (g1 :: used) S := by
  have hl : (ks ++ [t]).length = ks.length + 1 := by simp
  have hnotA : ∀ b, b ∉ (Value.slice A ks.length c).ownBlock.toList → some b ≠ (Value.slice A ks.length c).ownBlock := fun b hb e => hb (by rw [← e]; simp)
  have hcell : ∀ p : Addr, S p.block → w2.cell? p = w.cell? p := fun p hp => by
    obtain ⟨q1, q2, q3⟩ := h.sep _ hp
    exact World.cell?_of_block (hkeep _ q1 q3 (hnotA _ fun hb => q2 (List.mem_append.2 (.inl hb))))
  have hused : ∀ b ∈ used, b ≠ g1 := by
    intro b hb e
    subst e
    rcases hat with h1 | h1
    · exact (List.nodup_append.1 h.nodup).2.2 b (by rw [h1]; simp) b hb rfl
    · have := (h.stack.lt b hb).2
      omega
  refine ⟨h.cnt, ho, ⟨ys, some ⟨g1, 0, none⟩, cap1, kxs ++ tc, used, by rw [hl], by rw [hl]; exact hk, (h.kids.snoc ht).keep (fun _ h => h) hcell, rfl, h.stack.keep (fun _ h => h) hcell fun b hb => ?_⟩, ?_, ?_, ?_, h.low⟩
  · refine hkeep b (h.stack.lt b hb).2 (h.ne b (List.mem_append.2 (.inr hb))) (hnotA b fun hb' => (List.nodup_append.1 h.nodup).2.2 b hb' b hb rfl)
  · rw [List.nodup_cons]
    exact ⟨fun hb => hused g1 hb rfl, (List.nodup_append.1 h.nodup).2.1⟩
  · intro b hb e
    rcases List.mem_cons.1 hb with rfl | hb
    · rcases hat with h1 | h1
      · exact h.ne b (List.mem_append.2 (.inl (by rw [h1]; simp))) e
      · have := (h.own.lt b e.symm).2
        omega
    · exact h.ne b (List.mem_append.2 (.inr hb)) e
  · intro b hS
    obtain ⟨q1, q2, q3⟩ := h.sep b hS
    refine ⟨Nat.lt_of_lt_of_le q1 hsz, fun hb => ?_, q3⟩
    rcases List.mem_cons.1 hb with rfl | hb
    · rcases hat with h1 | h1
      · exact q2 (List.mem_append.2 (.inl (by rw [h1]; simp)))
      · omega
    · exact q2 (List.mem_append.2 (.inr hb))
end Go.Proofs.Ytphfckihdhmhpaa
