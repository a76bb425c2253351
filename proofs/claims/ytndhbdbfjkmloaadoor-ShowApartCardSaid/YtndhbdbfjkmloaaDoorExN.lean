/- How many nodes an expression has, and that expr.Size says so of a right one; plain. -/
import Derived.Test.YtndhbdbfjkmloaaDoorEx5
namespace Go.Proofs.YtndhbdbfjkmloaaDoor
open Go.RowKit

mutual
def nodes : Ex → Nat
  | .mk _ _ _ _ _ _ ks => 1 + nodesAll ks
def nodesAll : List Ex → Nat
  | [] => 0
  | e :: es => nodes e + nodesAll es
end

theorem looks_ok : ∀ (ks : List Ex) (n deep : Nat), (∀ e ∈ ks, ∀ n deep, (lookN e n deep).1 = 0 → ∀ n' deep', n' ≤ n → deep' ≤ deep → lookN e n' deep' = (0, n' + nodes e)) → (looks ks n deep).1 = 0 →
    ∀ n' deep', n' ≤ n → deep' ≤ deep → looks ks n' deep' = (0, n' + nodesAll ks) ∧ ∀ e ∈ ks, ∀ d, d ≤ deep → lookN e 0 d = (0, nodes e)
  | [], n, deep, _, _ => fun n' deep' _ _ => ⟨by simp [looks, nodesAll], fun e he => by cases he⟩
  | e :: es, n, deep, h, h0 => fun n' deep' hn hd => by
    have he := h e (by simp) n deep
    unfold looks at h0
    split at h0
    · rename_i hz
      have h1 := he hz n' deep' hn hd
      have h2 := he hz n deep (Nat.le_refl _) (Nat.le_refl _)
      rw [h2] at h0
      have h3 := looks_ok es (n + nodes e) deep (fun e' he' => h e' (by simp [he'])) h0 (n' + nodes e) deep' (by omega) hd
      refine ⟨?_, ?_⟩
      · unfold looks
        rw [h1, if_pos rfl, h3.1, nodesAll, Nat.add_assoc]
      · intro e' he' d hd'
        rcases List.mem_cons.1 he' with rfl | he'
        · have := he hz 0 d (Nat.zero_le _) hd'
          rw [this, Nat.zero_add]
        · exact h3.2 e' he' d hd'
    · rename_i hz
      exact absurd h0 hz
theorem look_ok (e : Ex) : ∀ n deep, (lookN e n deep).1 = 0 → ∀ n' deep', n' ≤ n → deep' ≤ deep → lookN e n' deep' = (0, n' + nodes e) := by
  refine Ex.ind (P := fun e => ∀ n deep, (lookN e n deep).1 = 0 → ∀ n' deep', n' ≤ n → deep' ≤ deep → lookN e n' deep' = (0, n' + nodes e)) ?_ e
  intro k a b c d t ks ih n deep h0 n' deep' hn hd
  unfold lookN at h0
  split at h0
  · simp at h0
  · split at h0
    · simp at h0
    · split at h0
      · simp at h0
      · rename_i g1 g2 g3
        have h3 := (looks_ok ks (n + 1) (deep + 1) ih h0 (n' + 1) (deep' + 1) (by omega) (by omega)).1
        unfold lookN
        rw [if_neg (by omega), if_neg (by omega), if_neg g3, h3, nodes, Nat.add_assoc]
/-- of a right expression -/
theorem parts_ok {k a b c d : Int} {t : ByteArray} {ks : List Ex} (h : checkE (.mk k a b c d t ks) = 0) : sizeE (.mk k a b c d t ks) = (1 + nodesAll ks, 0) ∧ (∀ e ∈ ks, sizeE e = (nodes e, 0)) ∧ nodesAll ks ≤ 60 := by
  have h1 := look_ok _ 0 1 h 0 1 (Nat.le_refl _) (Nat.le_refl _)
  refine ⟨?_, ?_, ?_⟩
  · unfold sizeE
    rw [h1, if_pos rfl, Nat.zero_add, nodes]
  · intro e he
    unfold checkE at h
    unfold lookN at h
    split at h
    · simp at h
    · split at h
      · simp at h
      · split at h
        · simp at h
        · have := (looks_ok ks (0 + 1) (1 + 1) (fun e _ => look_ok e) h (0 + 1) (1 + 1) (Nat.le_refl _) (Nat.le_refl _)).2 e he 1 (by omega)
          unfold sizeE
          rw [this, if_pos rfl]
  · have h2 := (lookN_le (.mk k a b c d t ks) 0 1 (by omega)).2 h
    rw [h1, nodes] at h2
    simp at h2
    omega
theorem size_bad {e : Ex} (h : checkE e ≠ 0) : sizeE e = (0, checkE e) := by
  unfold sizeE checkE at *
  rw [if_neg h]

end Go.Proofs.YtndhbdbfjkmloaaDoor
