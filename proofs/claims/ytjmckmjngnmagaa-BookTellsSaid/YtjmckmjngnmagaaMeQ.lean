/- Never fewer steps than rules that were tried: plain. -/
import Derived.Test.YtjmckmjngnmagaaMeP
import Derived.Test.YtjmckmjngnmagaaGL
namespace Go.Proofs.Ytjmckmjngnmagaa

section
variable {g : List Rl} {s : List UInt8} {hook : Bool} {fs : List Fa}
theorem missS_log (σ : PS) (p : Nat) (w : S4) : (missS σ p w).log = σ.log := by
  unfold missS
  split
  · rfl
  · split <;> rfl
theorem markS_log (σ : PS) (n : Nat) (ok : Bool) : (markS hook σ n ok).log = σ.log := by
  unfold markS
  split <;> rfl
/-- what a try makes is what the grammar means -/
theorem pk_goes (H : Fits g fs) {n m num p : Nat} {e : Ex} {u u' : Option Nat} {σ σ1 : PS} (hrt : Rt g e) (hp : p ≤ s.length) (he : ev g s n e p = some u) (hσ : Agree g s σ) (h : pk g s hook m (.try_ e num) p σ = some (u', σ1)) : u' = u ∧ Agree g s σ1 := by
  obtain ⟨m0, σ0, h0, ha, _⟩ := ((goes (hook := hook) H n).1 e p u hrt hp he σ num hσ).try_
  have e1 := pk_le h0 (Nat.le_max_left m0 m)
  have e2 := pk_le h (Nat.le_max_right m0 m)
  rw [e1] at e2
  injection e2 with e2
  injection e2 with e2 e3
  subst e2 e3
  exact ⟨rfl, ha⟩
def GrowN (g : List Rl) (s : List UInt8) (hook : Bool) (n : Nat) : Prop :=
  (∀ e p o, Rt g e → p ≤ s.length → ev g s n e p = some o → ∀ m num σ o' σ1, Agree g s σ → pk g s hook m (.node e num) p σ = some (o', σ1) → σ1.log.length + 1 ≤ σ.log.length + cost g s n (.ex e) p) ∧
  (∀ k e p o, 7 ≤ k ∧ k ≤ 11 → Rt g e → p ≤ s.length → evK g s n k e p = some o → ∀ m num σ o' σ1, Agree g s σ → pk g s hook m (.one k e num) p σ = some (o', σ1) → σ1.log.length ≤ σ.log.length + cost g s n (.kid k e) p) ∧
  (∀ es p o, (∀ e ∈ es, Rt g e) → p ≤ s.length → evS g s n es p = some o → ∀ m num σ o' σ1, Agree g s σ → pk g s hook m (.seq es num) p σ = some (o', σ1) → σ1.log.length ≤ σ.log.length + cost g s n (.seq es) p) ∧
  (∀ es p o, (∀ e ∈ es, Rt g e) → p ≤ s.length → evA g s n es p = some o → ∀ m num σ o' σ1, Agree g s σ → pk g s hook m (.alt es num) p σ = some (o', σ1) → σ1.log.length ≤ σ.log.length + cost g s n (.alt es) p) ∧
  (∀ e p o, Rt g e → p ≤ s.length → evR g s n e p = some o → ∀ m num σ o' σ1, Agree g s σ → pk g s hook m (.rep e num) p σ = some (o', σ1) → σ1.log.length ≤ σ.log.length + cost g s n (.rep e) p)
theorem grow_try {n : Nat} (h : GrowN g s hook n) {e : Ex} {p : Nat} {o o' : Option Nat} {m num : Nat} {σ σ1 : PS} (hrt : Rt g e) (hp : p ≤ s.length) (he : ev g s n e p = some o) (hσ : Agree g s σ) (hpk : pk g s hook m (.try_ e num) p σ = some (o', σ1)) : σ1.log.length + 1 ≤ σ.log.length + cost g s n (.ex e) p := by
  cases m with
  | zero => cases hpk
  | succ m =>
    simp only [pk] at hpk
    cases hq : pk g s hook m (.node e num) p σ with
    | none => rw [hq] at hpk; cases hpk
    | some x =>
      obtain ⟨u, σ2⟩ := x
      rw [hq] at hpk
      simp only [Option.some.injEq, Prod.mk.injEq] at hpk
      rw [← hpk.2, markS_log]
      exact h.1 e p o hrt hp he m num σ u σ2 hσ hq
theorem grow_rep (H : Fits g fs) {n : Nat} (hG : GrowN g s hook n) {e : Ex} {p : Nat} {o : Option Nat} (hrt : Rt g e) (hp : p ≤ s.length) (h : evR g s (n + 1) e p = some o) {m num : Nat} {σ σ1 : PS} {o' : Option Nat} (hσ : Agree g s σ) (hpk : pk g s hook m (.rep e num) p σ = some (o', σ1)) : σ1.log.length ≤ σ.log.length + cost g s (n + 1) (.rep e) p := by
  rw [evR_s] at h
  cases m with
  | zero => cases hpk
  | succ m =>
    simp only [pk] at hpk
    cases he : ev g s n e p with
    | none => rw [he] at h; cases h
    | some u =>
      rw [he] at h
      cases hq : pk g s hook m (.try_ e num) p σ with
      | none => rw [hq] at hpk; cases hpk
      | some x =>
        obtain ⟨u', σ2⟩ := x
        obtain ⟨rfl, hA2⟩ := pk_goes H hrt hp he hσ hq
        have hgt := grow_try hG hrt hp he hσ hq
        rw [hq] at hpk
        have hev : evJ g s n (.ex e) p = some u' := he
        cases u' with
        | none =>
          simp only [Option.some.injEq, Prod.mk.injEq] at hpk
          rw [← hpk.2]
          simp only [cost, hev]
          omega
        | some to =>
          simp only at hpk h
          have ht := (told (s := s) H n).1 e p _ hrt hp he
          have := hG.2.2.2.2 e to o hrt ht.2.1 h m num σ2 o' σ1 hA2 hpk
          simp only [cost, hev]
          omega
theorem grows (H : Fits g fs) : ∀ n, GrowN g s hook n := by
  intro n
  induction n with
  | zero => exact ⟨fun e p o _ _ h => (by cases h), fun k e p o _ _ _ h => (by cases h), fun es p o _ _ h => (by cases h), fun es p o _ _ h => (by cases h), fun e p o _ _ h => (by cases h)⟩
  | succ n hG =>
    refine ⟨?_, ?_, ?_, ?_, fun e p o hrt hp h m num σ o' σ1 hσ hpk => grow_rep H hG hrt hp h hσ hpk⟩
    · rintro ⟨k, a, b, c, d, t, ks⟩ p o hrt hp h m num σ o' σ1 hσ hpk
      rw [ev_s] at h
      cases m with
      | zero => cases hpk
      | succ m =>
        rw [pk_node] at hpk
        rw [cost_ex]
        cases hrt with
        | mk _ _ _ _ _ _ _ hfit hname hkids =>
        rcases fit_cases hfit with ⟨rfl, h0⟩ | ⟨rfl, h0⟩ | ⟨rfl, h0, _, _⟩ | ⟨rfl, h0, _⟩ | ⟨rfl, h2, h8⟩ | ⟨rfl, h2, h8⟩ | ⟨h7, h11, h1⟩
        · rw [if_pos rfl] at hpk
          simp only [Option.some.injEq, Prod.mk.injEq] at hpk
          rw [← hpk.2, if_pos (by omega)]
          omega
        · rw [if_neg (by decide), if_pos rfl] at hpk
          rw [if_pos (by omega)]
          split at hpk
          · simp only [Option.some.injEq, Prod.mk.injEq] at hpk
            rw [← hpk.2]
            omega
          · simp only [Option.some.injEq, Prod.mk.injEq] at hpk
            rw [← hpk.2, missS_log]
            omega
        · rw [if_neg (by decide), if_neg (by decide), if_pos rfl] at hpk
          rw [if_pos (by omega)]
          split at hpk
          · simp only [Option.some.injEq, Prod.mk.injEq] at hpk
            rw [← hpk.2]
            omega
          · simp only [Option.some.injEq, Prod.mk.injEq] at hpk
            rw [← hpk.2, missS_log]
            omega
        · rw [if_neg (by decide), if_neg (by decide), if_neg (by decide), if_pos rfl] at h hpk
          rw [if_neg (by decide), if_pos rfl]
          obtain ⟨r, hr, _⟩ := fnd_at (hname rfl)
          rw [hr] at h ⊢
          simp only at h ⊢
          cases m with
          | zero => cases hpk
          | succ m =>
            simp only [pk] at hpk
            cases hs : recall σ.seen ((fnd g t.data.toList).toNat, p) with
            | some u =>
              rw [hs] at hpk
              simp only [Option.some.injEq, Prod.mk.injEq] at hpk
              rw [← hpk.2]
              omega
            | none =>
              rw [hs, hr] at hpk
              simp only at hpk
              cases hq : pk g s hook m (.try_ r.2 (firstN g (fnd g t.data.toList).toNat)) p σ with
              | none => rw [hq] at hpk; cases hpk
              | some x =>
                obtain ⟨u, σ2⟩ := x
                rw [hq] at hpk
                simp only at hpk
                have hgt := grow_try hG (H.right r (List.mem_of_getElem? hr)) hp h hσ hq
                split at hpk
                · cases hpk
                · simp only [Option.some.injEq, Prod.mk.injEq] at hpk
                  rw [← hpk.2]
                  simp only [List.length_append, List.length_cons, List.length_nil]
                  omega
        · rw [if_neg (by decide), if_neg (by decide), if_neg (by decide), if_neg (by decide), if_pos rfl] at h hpk
          rw [if_neg (by decide), if_neg (by decide), if_pos rfl]
          have := hG.2.2.1 ks p o hkids hp h m (num + 1) σ o' σ1 hσ hpk
          omega
        · rw [if_neg (by decide), if_neg (by decide), if_neg (by decide), if_neg (by decide), if_neg (by decide), if_pos rfl] at h hpk
          rw [if_neg (by decide), if_neg (by decide), if_neg (by decide), if_pos rfl]
          have := hG.2.2.2.1 ks p o hkids hp h m (num + 1) σ o' σ1 hσ hpk
          omega
        · rw [if_neg (by omega), if_neg (by omega), if_neg (by omega), if_neg (by omega), if_neg (by omega), if_neg (by omega)] at h hpk
          rw [if_neg (by omega), if_neg (by omega), if_neg (by omega), if_neg (by omega)]
          cases ks with
          | nil => simp at h1
          | cons e es =>
            simp only at h hpk ⊢
            have := hG.2.1 k e p o ⟨h7, h11⟩ (hkids e (by simp)) hp h m num σ o' σ1 hσ hpk
            omega
    · rintro k e p o hk hrt hp h m num σ o' σ1 hσ hpk
      rw [evK_s] at h
      cases m with
      | zero => cases hpk
      | succ m =>
        by_cases k7 : k = 7
        · subst k7
          rw [if_pos rfl] at h
          have hc : cost g s (n + 1) (.kid 7 e) p = cost g s n (.rep e) p := rfl
          rw [hc]
          cases n with
          | zero => cases h
          | succ n =>
            have hrep : pk g s hook (m + 1) (.rep e (num + 1)) p σ = some (o', σ1) := by
              simp only [pk] at hpk ⊢
              cases hq : pk g s hook m (.try_ e (num + 1)) p σ with
              | none => rw [hq] at hpk; cases hpk
              | some x =>
                obtain ⟨u, σ2⟩ := x
                rw [hq] at hpk
                cases u with
                | none => simpa using hpk
                | some to =>
                  simp only at hpk ⊢
                  rw [if_neg (by decide), if_neg (by decide), if_neg (by decide)] at hpk
                  exact hpk
            exact hG.2.2.2.2 e p o hrt hp h (m + 1) (num + 1) σ o' σ1 hσ hrep
        · rw [if_neg k7] at h
          simp only [pk] at hpk
          cases he : ev g s n e p with
          | none => rw [he] at h; cases h
          | some u =>
            rw [he] at h
            have hev : evJ g s n (.ex e) p = some u := he
            cases hq : pk g s hook m (.try_ e (num + 1)) p σ with
            | none => rw [hq] at hpk; cases hpk
            | some x =>
              obtain ⟨u', σ2⟩ := x
              obtain ⟨rfl, hA2⟩ := pk_goes H hrt hp he hσ hq
              have hgt := grow_try hG hrt hp he hσ hq
              rw [hq] at hpk
              cases u' with
              | none =>
                simp only [Option.some.injEq, Prod.mk.injEq] at hpk
                rw [← hpk.2]
                simp only [cost, hev, if_neg k7]
                omega
              | some to =>
                simp only at hpk h
                have ht := (told (s := s) H n).1 e p _ hrt hp he
                simp only [cost, hev, if_neg k7]
                by_cases k8 : k = 8
                · subst k8
                  rw [if_neg (by decide), if_neg (by decide), if_neg (by decide)] at hpk
                  rw [if_pos rfl] at h ⊢
                  have := hG.2.2.2.2 e to o hrt ht.2.1 h m (num + 1) σ2 o' σ1 hA2 hpk
                  omega
                · rw [if_neg k8]
                  have hs : σ1 = σ2 := by
                    split at hpk
                    · simp only [Option.some.injEq, Prod.mk.injEq] at hpk; exact hpk.2.symm
                    · split at hpk
                      · simp only [Option.some.injEq, Prod.mk.injEq] at hpk; exact hpk.2.symm
                      · split at hpk
                        · simp only [Option.some.injEq, Prod.mk.injEq] at hpk; exact hpk.2.symm
                        · omega
                  rw [hs]
                  omega
    · intro es p o hrt hp h m num σ o' σ1 hσ hpk
      cases m with
      | zero => cases hpk
      | succ m =>
        cases es with
        | nil =>
          simp only [pk, Option.some.injEq, Prod.mk.injEq] at hpk
          rw [← hpk.2]
          omega
        | cons e es =>
          rw [evS_cons] at h
          simp only [pk] at hpk
          have hrte := hrt e (by simp)
          cases he : ev g s n e p with
          | none => rw [he] at h; cases h
          | some u =>
            rw [he] at h
            have hev : evJ g s n (.ex e) p = some u := he
            cases hq : pk g s hook m (.try_ e num) p σ with
            | none => rw [hq] at hpk; cases hpk
            | some x =>
              obtain ⟨u', σ2⟩ := x
              obtain ⟨rfl, hA2⟩ := pk_goes H hrte hp he hσ hq
              have hgt := grow_try hG hrte hp he hσ hq
              rw [hq] at hpk
              cases u' with
              | none =>
                simp only [Option.some.injEq, Prod.mk.injEq] at hpk
                rw [← hpk.2]
                simp only [cost, hev]
                omega
              | some to =>
                simp only at hpk h
                have ht := (told (s := s) H n).1 e p _ hrte hp he
                have := hG.2.2.1 es to o (fun x hx => hrt x (by simp [hx])) ht.2.1 h m _ σ2 o' σ1 hA2 hpk
                simp only [cost, hev]
                omega
    · intro es p o hrt hp h m num σ o' σ1 hσ hpk
      cases m with
      | zero => cases hpk
      | succ m =>
        cases es with
        | nil =>
          simp only [pk, Option.some.injEq, Prod.mk.injEq] at hpk
          rw [← hpk.2]
          omega
        | cons e es =>
          rw [evA_cons] at h
          simp only [pk] at hpk
          have hrte := hrt e (by simp)
          cases he : ev g s n e p with
          | none => rw [he] at h; cases h
          | some u =>
            rw [he] at h
            have hev : evJ g s n (.ex e) p = some u := he
            cases hq : pk g s hook m (.try_ e num) p σ with
            | none => rw [hq] at hpk; cases hpk
            | some x =>
              obtain ⟨u', σ2⟩ := x
              obtain ⟨rfl, hA2⟩ := pk_goes H hrte hp he hσ hq
              have hgt := grow_try hG hrte hp he hσ hq
              rw [hq] at hpk
              cases u' with
              | some to =>
                simp only [Option.some.injEq, Prod.mk.injEq] at hpk
                rw [← hpk.2]
                simp only [cost, hev]
                omega
              | none =>
                simp only at hpk h
                have := hG.2.2.2.1 es p o (fun x hx => hrt x (by simp [hx])) hp h m _ σ2 o' σ1 hA2 hpk
                simp only [cost, hev]
                omega
end
end Go.Proofs.Ytjmckmjngnmagaa
