/- Plain laws: a literal that was written is read as it was. -/
import Derived.Test.YtkoenjnjkapfmaaQuo4
namespace Go.Proofs.Ytkoenjnjkapfmaa
open Go.RowKit

theorem bt_app {e r : List UInt8} {k : Nat} (h : k < e.length) : bt (e ++ r) k = bt e k := by
  unfold bt; rw [List.getD_eq_getElem?_getD, List.getD_eq_getElem?_getD, List.getElem?_append_left h]
theorem nextN_app {sg e r : List UInt8} (h : (nextN sg e).2 ≠ 0) (he : e ≠ []) : nextN sg (e ++ r) = nextN sg e := by
  have h1 : 0 < e.length := by cases e with | nil => exact absurd rfl he | cons => simp
  have e0 := bt_app (r := r) h1
  by_cases h92 : bt e 0 = 92
  · have h2 : 2 ≤ e.length := by
      rcases Nat.lt_or_ge e.length 2 with h' | h'
      · exfalso; apply h; unfold nextN; rw [if_neg (by simpa using h92), if_pos h']
      · exact h'
    have e1 := bt_app (r := r) (show 1 < e.length by omega)
    have hl : ¬ (e ++ r).length < 2 := by rw [List.length_append]; omega
    have key : ∀ l : List UInt8, bt l 0 = 92 → 2 ≤ l.length → nextN sg l = (if bt l 1 = 110 then (10, 2) else if bt l 1 = 116 then (9, 2) else if UInt8.ofNat (bt l 1) ∈ sg then (bt l 1, 2)
        else if bt l 1 = 120 ∧ 4 ≤ l.length then (if 0 ≤ hexI (bt l 2) ∧ 0 ≤ hexI (bt l 3) then ((hexI (bt l 2) * 16 + hexI (bt l 3)).toNat, 4) else (0, 0)) else (0, 0)) := by
      intro l a b
      unfold nextN
      rw [if_neg (by simpa using a), if_neg (by omega)]
    rw [key e h92 h2] at h
    rw [key e h92 h2, key (e ++ r) (by rw [e0]; exact h92) (by omega), e1]
    by_cases a : bt e 1 = 110
    · rw [if_pos a, if_pos a]
    · rw [if_neg a] at h
      rw [if_neg a, if_neg a]
      by_cases b : bt e 1 = 116
      · rw [if_pos b, if_pos b]
      · rw [if_neg b] at h
        rw [if_neg b, if_neg b]
        by_cases c : UInt8.ofNat (bt e 1) ∈ sg
        · rw [if_pos c, if_pos c]
        · rw [if_neg c] at h
          rw [if_neg c, if_neg c]
          by_cases d : bt e 1 = 120 ∧ 4 ≤ e.length
          · have e2 := bt_app (r := r) (show 2 < e.length by omega)
            have e3 := bt_app (r := r) (show 3 < e.length by omega)
            rw [if_pos d, if_pos ⟨d.1, by rw [List.length_append]; omega⟩, e2, e3]
          · rw [if_neg d] at h
            exact absurd rfl h
  · unfold nextN
    rw [e0, if_pos h92, if_pos h92]

theorem enc_next (n : Nat) (h : n < 256) : nextN sgU.data.toList (enc false n) = (n, (enc false n).length) ∧ bt (enc false n) 0 ≠ 39 ∧ (enc false n).length ≠ 0 := by
  have h' : ∀ n : Fin 256, nextN sgU.data.toList (enc false n.val) = (n.val, (enc false n.val).length) ∧ bt (enc false n.val) 0 ≠ 39 ∧ (enc false n.val).length ≠ 0 := by decide +kernel
  exact h' ⟨n, h⟩
theorem enc_seen (cls : Bool) (n : Nat) (h : n < 256) : ∀ b ∈ enc cls n, 32 ≤ b.toNat ∧ b.toNat ≤ 126 := by
  have h' : ∀ cls : Bool, ∀ n : Fin 256, ∀ b ∈ enc cls n.val, 32 ≤ b.toNat ∧ b.toNat ≤ 126 := by decide +kernel
  exact h' cls ⟨n, h⟩

theorem unl_enc (more : List UInt8) : ∀ (s : List UInt8) (f : Nat), (encAll false s).length < f → unl 39 sgU.data.toList f (encAll false s ++ 39 :: more) = some (s, (encAll false s).length + 1)
  | [], 0, h => by simp at h
  | [], f + 1, _ => by
    show unl 39 sgU.data.toList (f + 1) (39 :: more) = _
    rw [unl_step _ _ _ (by simp), if_pos (by rfl)]
    rfl
  | b :: s, 0, h => by simp at h
  | b :: s, f + 1, h => by
    obtain ⟨h1, h2, h3⟩ := enc_next b.toNat b.toNat_lt
    have hne : enc false b.toNat ≠ [] := fun h' => h3 (by rw [h']; rfl)
    have hl : 0 < (enc false b.toNat).length := by omega
    rw [encAll, List.append_assoc] at *
    rw [List.length_append] at h
    have hx := nextN_app (sg := sgU.data.toList) (r := encAll false s ++ 39 :: more) (by rw [h1]; exact h3) hne
    rw [unl_step _ _ _ (by simp [hne]), bt_app hl, if_neg h2, hx, h1]
    simp only
    rw [if_neg h3, List.drop_left, unl_enc more s f (by omega)]
    simp only [Option.map_some, List.length_append, Option.some.injEq, Prod.mk.injEq]
    refine ⟨?_, by omega⟩
    simp

theorem litL_seen (s : List UInt8) : ∀ b ∈ litL s, 32 ≤ b.toNat ∧ b.toNat ≤ 126 := by
  have h : ∀ s : List UInt8, ∀ b ∈ encAll false s, 32 ≤ b.toNat ∧ b.toNat ≤ 126 := by
    intro s
    induction s with
    | nil => intro b hb; cases hb
    | cons c s ih =>
      intro b hb
      rcases List.mem_append.1 hb with hb | hb
      · exact enc_seen false c.toNat c.toNat_lt b hb
      · exact ih b hb
  intro b hb
  unfold litL at hb
  rcases List.mem_cons.1 hb with rfl | hb
  · decide
  · rcases List.mem_append.1 hb with hb | hb
    · exact h s b hb
    · rw [List.mem_singleton.1 hb]; decide
end Go.Proofs.Ytkoenjnjkapfmaa
