/- What tree.Count and event.Of answer. -/
import Derived.Test.YtkmcnekjimobhaaTr1
namespace Go.Proofs.Ytkmcnekjimobhaa
open Go.RowKit

/-- an event: kind, rule, at -/
abbrev Ev := Int × Int × Int
mutual
def evs : Tr → List Ev
  | .mk r f u ks => (1, r, f) :: (evsAll ks ++ [(2, r, u)])
def evsAll : List Tr → List Ev
  | [] => []
  | t :: ts => evs t ++ evsAll ts
end
theorem evsAll_len : ∀ (ks : List Tr), (∀ t ∈ ks, (evs t).length = 2 * trNodes t) → (evsAll ks).length = 2 * trAll ks
  | [], _ => rfl
  | t :: ks, h => by
    rw [evsAll, List.length_append, h t (by simp), evsAll_len ks (fun t' ht => h t' (by simp [ht])), trAll]
    omega
theorem evs_len (t : Tr) : (evs t).length = 2 * trNodes t := by
  refine Tr.ind (P := fun t => (evs t).length = 2 * trNodes t) ?_ t
  intro r f u ks ih
  rw [evs, trNodes, List.length_cons, List.length_append, evsAll_len ks ih]
  simp; omega
theorem evsAll_snoc (t : Tr) : ∀ ks : List Tr, evsAll (ks ++ [t]) = evsAll ks ++ evs t
  | [] => by simp [evsAll]
  | t' :: ks => by
    show evsAll (t' :: (ks ++ [t])) = _
    rw [evsAll, evsAll, evsAll_snoc t ks, List.append_assoc]
theorem trAll_take : ∀ (ks : List Tr) (j : Nat), trAll (ks.take j) ≤ trAll ks
  | [], j => by simp [trAll]
  | t :: ks, 0 => by simp [trAll]
  | t :: ks, j + 1 => by
    rw [List.take_succ_cons, trAll, trAll]
    have := trAll_take ks j
    omega


def evCells (l : List Ev) : List Value := l.flatMap fun v => [.int .i64 v.1, .int .i64 v.2.1, .int .i64 v.2.2]
theorem evCells_app (a b : List Ev) : evCells (a ++ b) = evCells a ++ evCells b := by simp [evCells]
theorem evCells_len : ∀ l : List Ev, (evCells l).length = l.length * 3
  | [] => rfl
  | v :: l => by
    have := evCells_len l
    unfold evCells at this ⊢
    rw [List.flatMap_cons, List.length_append, this]
    simp; omega
theorem evCells_one (l : List Ev) : ∀ u ∈ evCells l, u.oneCell' = true := by
  intro u hu
  unfold evCells at hu
  rw [List.mem_flatMap] at hu
  obtain ⟨v, _, hv⟩ := hu
  simp at hv
  rcases hv with rfl | rfl | rfl <;> rfl
theorem ev_info : (Try.prog.info? 107).map (fun i => (i.zero, i.size, i.bytes)) = some (some (.agg #[.int .i64 0, .int .i64 0, .int .i64 0]), 3, 24) := by kernel_rfl
end Go.Proofs.Ytkmcnekjimobhaa
