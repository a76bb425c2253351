/- Rules by other names: what becomes of them. -/
import Derived.Test.YtkmcnekjimobhaaGF
import Derived.Test.YtkmcnekjimobhaaGD
namespace Go.Proofs.Ytkmcnekjimobhaa
open Go.RowKit

/-- the name of the rule at i -/
def newL (i : Nat) : List UInt8 := [120] ++ List.replicate (i % 7) 121 ++ [(97 + i / 7).toUInt8]
def newN (i : Nat) : ByteArray := ⟨(newL i).toArray⟩
theorem newN_list (i : Nat) : (newN i).data.toList = newL i := rfl
theorem newL_inj : ∀ i < 10, ∀ j < 10, newL i = newL j → i = j := by decide
theorem newL_name : ∀ i < 10, nameB (newL i) = true := by decide
/-- what a name stands for -/
def nmG (g : List Rl) (t : ByteArray) : ByteArray := if fnd g t.data.toList < 0 then ⟨#[]⟩ else newN (fnd g t.data.toList).toNat
mutual
def rnE (f : ByteArray → ByteArray) : Ex → Ex
  | .mk k a b c d t ks => .mk k a b c d (if k = 4 then f t else t) (rnEs f ks)
def rnEs (f : ByteArray → ByteArray) : List Ex → List Ex
  | [] => []
  | e :: es => rnE f e :: rnEs f es
end
theorem rnEs_map (f : ByteArray → ByteArray) : ∀ ks : List Ex, rnEs f ks = ks.map (rnE f)
  | [] => by rw [rnEs, List.map_nil]
  | e :: es => by rw [rnEs, List.map_cons, rnEs_map f es]
theorem rnE_mk (f : ByteArray → ByteArray) (k a b c d : Int) (t : ByteArray) (ks : List Ex) : rnE f (.mk k a b c d t ks) = .mk k a b c d (if k = 4 then f t else t) (ks.map (rnE f)) := by rw [rnE, rnEs_map]
def rnG (g : List Rl) : List Rl := g.map fun r => (nmG g r.1, rnE (nmG g) r.2)
theorem rnG_len (g : List Rl) : (rnG g).length = g.length := by unfold rnG; rw [List.length_map]
theorem rnG_at (g : List Rl) (i : Nat) : (rnG g)[i]? = (g[i]?).map fun r => (nmG g r.1, rnE (nmG g) r.2) := by unfold rnG; rw [List.getElem?_map]

end Go.Proofs.Ytkmcnekjimobhaa
