/- Rows of bytes: what []byte(s) lays, and a block whose frozen mark lies behind its cells. -/
import Derived.Test.YtndhbdbfjkmloaaDoorBase
import Derived.Laws.IdiomStrings
namespace Go.Proofs.YtndhbdbfjkmloaaDoor
open Go.RowKit

/-- block g is just these cells, none of them frozen (a mark may lie behind them) -/
def BlkZ (w : World) (g : Nat) (t : TypeId) (cs : Array Value) : Prop := ∃ lo hi, w.heap[g]? = some (.cells cs t (lo, hi)) ∧ (cs.size ≤ lo ∨ hi ≤ lo)
section
variable {w w' : World} {g : Nat} {t : TypeId} {cs : Array Value}
theorem BlkZ.of (h : Blk w g t cs) : BlkZ w g t cs := ⟨0, 0, h, .inr (Nat.le_refl _)⟩
theorem BlkZ.lt (h : BlkZ w g t cs) : g < w.heap.size := by
  obtain ⟨lo, hi, h, _⟩ := h
  exact (Array.getElem?_eq_some_iff.1 h).1
theorem BlkZ.cell (h : BlkZ w g t cs) (i : Nat) : w.cell? ⟨g, i, none⟩ = cs[i]? := by
  obtain ⟨lo, hi, h, _⟩ := h
  exact cell_of_row w g i cs t (lo, hi) h
theorem BlkZ.frozen (h : BlkZ w g t cs) {i : Nat} (hi : i < cs.size) : w.frozen? ⟨g, i, none⟩ = false := by
  obtain ⟨lo, hi', h, h'⟩ := h
  simp only [World.frozen?, h]
  rcases h' with h' | h'
  · have : ¬ lo ≤ i := by omega
    simp [this]
  · by_cases hlo : lo ≤ i
    · have : ¬ i < hi' := by omega
      simp [this]
    · simp [hlo]
theorem BlkZ.drewN (h : BlkZ w g t cs) (n : Nat) : BlkZ (w.drewN n) g t cs := h
theorem BlkZ.drew (h : BlkZ w g t cs) : BlkZ w.drew g t cs := h
theorem BlkZ.below {B : Nat} (h : BlkZ w g t cs) (hb : Below B w w') (hg : g < B) : BlkZ w' g t cs := by
  obtain ⟨lo, hi, h, h'⟩ := h
  exact ⟨lo, hi, (hb.block g hg).trans h, h'⟩
theorem BlkZ.alloc (h : BlkZ w g t cs) (o : Obj) : BlkZ (w.alloc o) g t cs := by
  have hlt := h.lt
  obtain ⟨lo, hi, h, h'⟩ := h
  exact ⟨lo, hi, (Below.heap_alloc w o g hlt).trans h, h'⟩
theorem BlkZ.set_ (h : BlkZ w g t cs) (i : Nat) (u : Value) : BlkZ (w.setCell ⟨g, i, none⟩ u) g t (cs.setIfInBounds i u) := by
  obtain ⟨lo, hi, h, h'⟩ := h
  refine ⟨lo, hi, ?_, by simpa using h'⟩
  simp [World.setCell, Array.getElem?_modify, h]
theorem BlkZ.far (h : BlkZ w g t cs) {p : Addr} (hp : g ≠ p.block) (u : Value) : BlkZ (w.setCell p u) g t cs := by
  obtain ⟨lo, hi, h, h'⟩ := h
  exact ⟨lo, hi, (Below.heap_setCell w p u g hp).trans h, h'⟩
end

/-- cells of bytes -/
def u8s (l : List UInt8) : List Value := l.map fun b => Value.int .u8 b.toNat
theorem u8s_length (l : List UInt8) : (u8s l).length = l.length := by simp [u8s]
theorem u8s_append (a b : List UInt8) : u8s (a ++ b) = u8s a ++ u8s b := by simp [u8s]
theorem u8s_get {l : List UInt8} {i : Nat} {b : UInt8} (h : l[i]? = some b) : (u8s l)[i]? = some (.int .u8 b.toNat) := by simp [u8s, h]
theorem u8s_one (l : List UInt8) : ∀ u ∈ u8s l, u.oneCell' = true := by
  intro u hu
  obtain ⟨z, _, rfl⟩ := List.mem_map.1 hu
  rfl
/-- what []byte(s) lays: a block of at least as many cells, of which the first hold s -/
theorem bytes_laid (w : World) (t : TypeId) (s : ByteArray) (C : Nat) (hC : s.size ≤ C) {g : Nat} (hg : g = w.heap.size) :
    BlkZ (w.alloc (.cells (bytesRow s C) t ((bytesRow s C).size, (bytesRow s C).size + 1))) g t (bytesRow s C) ∧ (bytesRow s C).toList.take s.size = u8s s.data.toList ∧ (bytesRow s C).size = C := by
  subst hg
  refine ⟨⟨_, _, heap_alloc_new w _, .inl (Nat.le_refl _)⟩, ?_, ?_⟩
  · unfold bytesRow u8s
    rw [Array.toList_append, List.take_append_of_le_length (by simp)]
    rw [List.take_of_length_le (by simp)]
    simp
  · simp [bytesRow]; omega
/-- string(b) of bytes that are known -/
theorem string_of {P : Program} {w : World} {src dst e : TypeId} {g n c : Nat} {cs : Array Value} {t : TypeId} {l : List UInt8} (hs : P.underlying src = some (.slice e)) (he : P.underlying e = some (.int .u8)) (hd : P.underlying dst = some .string)
    (h : BlkZ w g t cs) (hl : l.length = n) (ht : cs.toList.take n = u8s l) : (convert src dst (.slice (some ⟨g, 0, none⟩) n c)).run P w = .ok (.string ⟨l.toArray⟩) w := by
  subst hl
  refine run_convert_bytes_back w src dst e ⟨g, 0, none⟩ c l hs he hd fun j hj => ?_
  have hadd : (⟨g, 0, none⟩ : Addr).add j = ⟨g, j, none⟩ := by unfold Addr.add; split <;> simp_all
  rw [hadd, h.cell j, ← Array.getElem?_toList]
  have h1 : (cs.toList.take l.length)[j]? = (u8s l)[j]? := by rw [ht]
  rw [List.getElem?_take, if_pos hj] at h1
  rw [h1, u8s_get (List.getElem?_eq_getElem hj)]
end Go.Proofs.YtndhbdbfjkmloaaDoor
