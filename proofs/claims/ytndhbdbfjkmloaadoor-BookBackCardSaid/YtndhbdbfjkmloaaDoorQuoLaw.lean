/- Plain laws: a literal that was written is read as it was. -/
import Derived.Test.YtndhbdbfjkmloaaDoorQuo4
import Derived.Test.YtndhbdbfjkmloaaDoorQuoN
namespace Go.Proofs.YtndhbdbfjkmloaaDoor
open Go.RowKit

theorem enc_next (n : Nat) (h : n < 256) : nextN sgU.data.toList (enc false n) = (n, (enc false n).length) ∧ bt (enc false n) 0 ≠ 39 ∧ (enc false n).length ≠ 0 := by
  have h' : ∀ n : Fin 256, nextN sgU.data.toList (enc false n.val) = (n.val, (enc false n.val).length) ∧ bt (enc false n.val) 0 ≠ 39 ∧ (enc false n.val).length ≠ 0 := by decide +kernel
  exact h' ⟨n, h⟩
theorem enc_seen (cls : Bool) (n : Nat) (h : n < 256) : ∀ b ∈ enc cls n, 32 ≤ b.toNat ∧ b.toNat ≤ 126 := by
  have h' : ∀ cls : Bool, ∀ n : Fin 256, ∀ b ∈ enc cls n.val, 32 ≤ b.toNat ∧ b.toNat ≤ 126 := by decide +kernel
  exact h' cls ⟨n, h⟩

theorem unl_enc (more : List UInt8) : ∀ (s : List UInt8) (f : Nat), (encAll false s).length < f → unl 39 sgU.data.toList f (encAll false s ++ 39 :: more) = some (s, (encAll false s).length + 1)
  | [], 0, h => by simp at h
  | [], f + 1, _ => by
    show unl 39 sgU.data.toList (f + 1) (39 :: more) = _
    rw [unl_step _ _ _ (by simp), if_pos (by rfl)]
    rfl
  | b :: s, 0, h => by simp at h
  | b :: s, f + 1, h => by
    obtain ⟨h1, h2, h3⟩ := enc_next b.toNat b.toNat_lt
    have hne : enc false b.toNat ≠ [] := fun h' => h3 (by rw [h']; rfl)
    have hl : 0 < (enc false b.toNat).length := by omega
    rw [encAll, List.append_assoc] at *
    rw [List.length_append] at h
    have hx := nextN_app (sg := sgU.data.toList) (r := encAll false s ++ 39 :: more) (by rw [h1]; exact h3) hne
    rw [unl_step _ _ _ (by simp [hne]), bt_app hl, if_neg h2, hx, h1]
    simp only
    rw [if_neg h3, List.drop_left, unl_enc more s f (by omega)]
    simp only [Option.map_some, List.length_append, Option.some.injEq, Prod.mk.injEq]
    refine ⟨?_, by omega⟩
    simp

theorem litL_seen (s : List UInt8) : ∀ b ∈ litL s, 32 ≤ b.toNat ∧ b.toNat ≤ 126 := by
  have h : ∀ s : List UInt8, ∀ b ∈ encAll false s, 32 ≤ b.toNat ∧ b.toNat ≤ 126 := by
    intro s
    induction s with
    | nil => intro b hb; cases hb
    | cons c s ih =>
      intro b hb
      rcases List.mem_append.1 hb with hb | hb
      · exact enc_seen false c.toNat c.toNat_lt b hb
      · exact ih b hb
  intro b hb
  unfold litL at hb
  rcases List.mem_cons.1 hb with rfl | hb
  · decide
  · rcases List.mem_append.1 hb with hb | hb
    · exact h s b hb
    · rw [List.mem_singleton.1 hb]; decide
end Go.Proofs.YtndhbdbfjkmloaaDoor
