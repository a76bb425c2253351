/- Numerals as bytes; the table of powers in memory. -/
import Derived.Test.YtndhbdbfjkmloaaDoorQoP
import Derived.Test.YtndhbdbfjkmloaaDoorShI
import Derived.Test.YtndhbdbfjkmloaaDoorBase
namespace Go.Proofs.YtndhbdbfjkmloaaDoor
open Go.RowKit

def itoaB (n : Int) : ByteArray := ⟨(Lib.itoa n).toArray⟩
theorem itoaB_list (n : Int) : (itoaB n).data.toList = Lib.itoa n := rfl
theorem itoaB_size (n : Int) : (itoaB n).size = (Lib.itoa n).length := by show (Lib.itoa n).toArray.size = _; simp
abbrev TabP (w : World) : Prop := Lib.TabIs Tryd.prog w "internal/strconv.uint64pow10" .u64 Lib.pow10Tab
theorem gPow : Tryd.prog.globalNamed "internal/strconv.uint64pow10" = some 2 := by kernel_rfl
theorem TabP.below {B : Nat} {w w' : World} (h : TabP w) (hg : 2 < B) (hb : Below B w w') : TabP w' := by
  unfold TabP Lib.TabIs at h ⊢
  unfold World.var? at h ⊢
  rw [gPow] at h ⊢
  simp only [Option.bind_some] at h ⊢
  rw [hb.block _ hg]
  exact h
theorem grow_below (B : Nat) (w : World) (os : Array Obj) (h : B ≤ w.heap.size) : Below B w (Sort.grow w os) :=
  ⟨rfl, rfl, rfl, by simp [Sort.grow], fun k hk => by simp [Sort.grow, Array.getElem?_append, Nat.lt_of_lt_of_le hk h]⟩
theorem grow_below2 (w : World) (k : Nat) (os : Array Obj) : Below w.heap.size w (Sort.grow (w.drewN k) os) :=
  (below_drewN (Below.refl _ w) k).trans (grow_below _ _ _ (by simp))

theorem TabP.lt {w : World} (h : TabP w) : 2 < w.heap.size := by
  unfold TabP Lib.TabIs World.var? at h
  rw [gPow] at h
  simp only [Option.bind_some] at h
  rcases Nat.lt_or_ge 2 w.heap.size with h1 | h1
  · exact h1
  · rw [Array.getElem?_eq_none h1] at h
    cases h
theorem TabP.on {w w' : World} (h : TabP w) (hb : Below w.heap.size w w') : TabP w' := h.below h.lt hb
end Go.Proofs.YtndhbdbfjkmloaaDoor
