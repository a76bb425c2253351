/- How many trees an expression's meaning takes: plain. -/
import Derived.Test.YtkmcnekjimobhaaTnP
import Derived.Test.YtkmcnekjimobhaaExH
namespace Go.Proofs.Ytkmcnekjimobhaa

def trM (e : Ex) : Nat := 2 ^ hE e * nodes e
section
variable {g : List Rl} {s : List UInt8} {fs : List Fa}
theorem mul3 {a b c d e f : Nat} (h1 : a ≤ d) (h2 : b ≤ e) (h3 : c ≤ f) : a * b * c ≤ d * e * f := Nat.mul_le_mul (Nat.mul_le_mul h1 h2) h3
structure TrLen (g : List Rl) (s : List UInt8) (fs : List Fa) (n : Nat) : Prop where
  ex : ∀ e p q, GoodE g fs e → p ≤ s.length → evJ g s n (.ex e) p = some (some q) → (trJ g s n (.ex e) p).length ≤ trM e * (q - p + 1)
  seq : ∀ es p q X, (∀ e ∈ es, GoodE g fs e ∧ 2 ^ hE e ≤ X) → p ≤ s.length → evJ g s n (.seq es) p = some (some q) → (trJ g s n (.seq es) p).length ≤ X * nodesAll es * (q - p + 1)
  alt : ∀ es p q X, (∀ e ∈ es, GoodE g fs e ∧ 2 ^ hE e ≤ X) → p ≤ s.length → evJ g s n (.alt es) p = some (some q) → (trJ g s n (.alt es) p).length ≤ X * nodesAll es * (q - p + 1)
  rep : ∀ e p q, GoodE g fs e → (ofE g fs e).e = false → p ≤ s.length → evJ g s n (.rep e) p = some (some q) → (trJ g s n (.rep e) p).length ≤ trM e * (2 * (q - p))
  kid : ∀ k e p q, GoodE g fs e → (k = 7 ∨ k = 8 → (ofE g fs e).e = false) → 7 ≤ k → p ≤ s.length → evJ g s n (.kid k e) p = some (some q) → (trJ g s n (.kid k e) p).length ≤ trM e * (2 * (q - p + 1))
theorem trLen (H : Fits g fs) : ∀ n, TrLen g s fs n := by
  intro n
  induction n with
  | zero => exact ⟨fun _ _ _ _ _ h => (by cases h), fun _ _ _ _ _ _ h => (by cases h), fun _ _ _ _ _ _ h => (by cases h), fun _ _ _ _ _ _ h => (by cases h), fun _ _ _ _ _ _ _ _ h => (by cases h)⟩
  | succ n ih =>
    have htl : ∀ e p q, GoodE g fs e → p ≤ s.length → evJ g s n (.ex e) p = some (some q) → p ≤ q ∧ q ≤ s.length ∧ ((ofE g fs e).e = false → p < q) := fun e p q h1 h2 h3 => by
      have ht := (told H n).1 e p _ h1.rt h2 h3
      refine ⟨ht.1, ht.2.1, fun hne => ?_⟩
      rcases Nat.lt_or_ge p q with h | h
      · exact h
      · have := ht.2.2.1 (by have := ht.1; omega)
        rw [hne] at this
        cases this
    have hle : ∀ j p q, evJ g s n j p = some (some q) → p ≤ q := fun j p q h => (nests n j p q h).le
    refine ⟨?_, ?_, ?_, ?_, ?_⟩
    · rintro ⟨k, a, b, c, d, t, ks⟩ p q hg hp h
      obtain ⟨hkids, hfit, hname, hloop⟩ := hg.kids
      have hfc := fit_cases hfit
      have hpq := (nests (n + 1) _ p q h).le
      rw [evJ.eq_def] at h
      rw [trJ.eq_def]
      dsimp only at h ⊢
      have hX : ∀ e ∈ ks, GoodE g fs e ∧ 2 ^ hE e ≤ 2 ^ hS ks := fun e he => ⟨hkids e he, Nat.pow_le_pow_right (by omega) (hS_mem he)⟩
      have hM : trM (.mk k a b c d t ks) = 2 ^ (1 + hS ks) * (1 + nodesAll ks) := by unfold trM; rw [hE, nodes]
      have hM2 : 2 ^ hS ks * nodesAll ks * (q - p + 1) ≤ trM (.mk k a b c d t ks) * (q - p + 1) := by
        rw [hM]
        exact mul3 (Nat.pow_le_pow_right (by omega) (by omega)) (by omega) (Nat.le_refl _)
      by_cases h1 : k = 1 ∨ k = 2 ∨ k = 3
      · rw [if_pos h1]; exact Nat.zero_le _
      rw [if_neg h1]
      rw [if_neg (by omega), if_neg (by omega), if_neg (by omega)] at h
      by_cases h4 : k = 4
      · rw [if_pos h4] at h ⊢
        obtain ⟨r, hr, _⟩ := fnd_at (hname h4)
        rw [hr] at h ⊢
        dsimp only at h ⊢
        rw [h]
        have h1 : 0 < trM (.mk k a b c d t ks) := by rw [hM]; exact Nat.mul_pos (Nat.pow_pos (by omega)) (by omega)
        exact Nat.mul_pos h1 (by omega)
      rw [if_neg h4] at h ⊢
      by_cases h5 : k = 5
      · rw [if_pos h5] at h ⊢
        exact Nat.le_trans (ih.seq ks p q _ hX hp h) hM2
      rw [if_neg h5] at h ⊢
      by_cases h6 : k = 6
      · rw [if_pos h6] at h ⊢
        exact Nat.le_trans (ih.alt ks p q _ hX hp h) hM2
      rw [if_neg h6] at h ⊢
      match ks, show ks.length = 1 by omega with
      | [e], _ =>
      dsimp only at h ⊢
      have hge := hkids e (by simp)
      have hMe : 2 * trM e ≤ trM (.mk k a b c d t [e]) := by
        rw [hM]
        unfold trM
        rw [hS, hS, nodesAll, nodesAll, Nat.max_eq_left (Nat.zero_le _), Nat.add_comm 1 (hE e), Nat.pow_succ, ← Nat.mul_assoc, Nat.mul_comm 2]
        exact Nat.mul_le_mul_left _ (by omega)
      have hbig : ∀ m, m ≤ trM e * (2 * (q - p + 1)) → m ≤ trM (.mk k a b c d t [e]) * (q - p + 1) := fun m hm => Nat.le_trans hm (by
        rw [← Nat.mul_assoc, Nat.mul_comm (trM e) 2]
        exact Nat.mul_le_mul_right _ hMe)
      refine Nat.le_trans (ih.kid k e p q hge (fun hk => hloop hk e rfl) (by omega) hp h) ?_
      rw [← Nat.mul_assoc, Nat.mul_comm (trM e) 2]
      exact Nat.mul_le_mul_right _ hMe
    · rintro es p q X hX hp h
      cases es with
      | nil =>
        rw [trJ.eq_def]
        exact Nat.zero_le _
      | cons e es =>
        rw [evJ.eq_def] at h
        rw [trJ.eq_def]
        dsimp only at h ⊢
        cases he : evJ g s n (.ex e) p with
        | none => rw [he] at h; cases h
        | some u =>
          rw [he] at h
          cases u with
          | none => cases h
          | some to =>
            dsimp only at h ⊢
            obtain ⟨hge, hXe⟩ := hX e (by simp)
            have h1 := htl e p to hge hp he
            have h2 := hle _ _ _ h
            have l1 := ih.ex e p to hge hp he
            have l2 := ih.seq es to q X (fun x hx => hX x (by simp [hx])) h1.2.1 h
            rw [List.length_append, nodesAll, Nat.mul_add X, Nat.add_mul]
            unfold trM at l1
            exact Nat.add_le_add (Nat.le_trans l1 (mul3 hXe (Nat.le_refl _) (by omega))) (Nat.le_trans l2 (Nat.mul_le_mul_left _ (by omega)))
    · rintro es p q X hX hp h
      cases es with
      | nil =>
        rw [trJ.eq_def]
        exact Nat.zero_le _
      | cons e es =>
        rw [evJ.eq_def] at h
        rw [trJ.eq_def]
        dsimp only at h ⊢
        cases he : evJ g s n (.ex e) p with
        | none => rw [he] at h; cases h
        | some u =>
          rw [he] at h
          obtain ⟨hge, hXe⟩ := hX e (by simp)
          rw [nodesAll, Nat.mul_add X, Nat.add_mul]
          cases u with
          | none =>
            dsimp only at h ⊢
            exact Nat.le_trans (ih.alt es p q X (fun x hx => hX x (by simp [hx])) hp h) (Nat.le_add_left _ _)
          | some to =>
            dsimp only at h ⊢
            injection h with h
            injection h with h
            subst h
            have l1 := ih.ex e p to hge hp he
            unfold trM at l1
            exact Nat.le_trans (Nat.le_trans l1 (mul3 hXe (Nat.le_refl _) (Nat.le_refl _))) (Nat.le_add_right _ _)
    · rintro e p q hge hne hp h
      rw [evJ.eq_def] at h
      rw [trJ.eq_def]
      dsimp only at h ⊢
      cases he : evJ g s n (.ex e) p with
      | none => rw [he] at h; cases h
      | some u =>
        rw [he] at h
        cases u with
        | none => exact Nat.zero_le _
        | some to =>
          dsimp only at h ⊢
          have h1 := htl e p to hge hp he
          have h2 := hle _ _ _ h
          have h3 := h1.2.2 hne
          have l1 := ih.ex e p to hge hp he
          have l2 := ih.rep e to q hge hne h1.2.1 h
          rw [List.length_append]
          refine Nat.le_trans (Nat.add_le_add l1 l2) ?_
          rw [← Nat.mul_add]
          exact Nat.mul_le_mul_left _ (by omega)
    · rintro k e p q hge hne h7 hp h
      rw [evJ.eq_def] at h
      rw [trJ.eq_def]
      dsimp only at h ⊢
      by_cases k7 : k = 7
      · rw [if_pos k7] at h ⊢
        exact Nat.le_trans (ih.rep e p q hge (hne (.inl k7)) hp h) (Nat.mul_le_mul_left _ (by omega))
      rw [if_neg k7] at h ⊢
      cases he : evJ g s n (.ex e) p with
      | none => rw [he] at h; cases h
      | some u =>
        rw [he] at h
        cases u with
        | none =>
          dsimp only
          have : (if k = 8 then ([] : List Tr) else if k = 9 then [] else []) = [] := by simp
          rw [this]
          exact Nat.zero_le _
        | some to =>
          dsimp only at h ⊢
          have h1 := htl e p to hge hp he
          have l1 := ih.ex e p to hge hp he
          by_cases k8 : k = 8
          · rw [if_pos k8] at h ⊢
            have h2 := hle _ _ _ h
            have h3 := h1.2.2 (hne (.inr k8))
            have l2 := ih.rep e to q hge (hne (.inr k8)) h1.2.1 h
            rw [List.length_append]
            refine Nat.le_trans (Nat.add_le_add l1 l2) ?_
            rw [← Nat.mul_add]
            exact Nat.mul_le_mul_left _ (by omega)
          rw [if_neg k8] at h ⊢
          by_cases k9 : k = 9
          · rw [if_pos k9] at h ⊢
            injection h with h
            injection h with h
            subst h
            exact Nat.le_trans l1 (Nat.mul_le_mul_left _ (by omega))
          · rw [if_neg k9]
            exact Nat.zero_le _
/-- no rule takes more than so many trees -/
theorem tr_few (W : WellG g) (h60 : s.length ≤ 60) {r : Rl} (hr : r ∈ g) {n p q : Nat} (hp : p ≤ s.length) (h : evJ g s n (.ex r.2) p = some (some q)) : (trJ g s n (.ex r.2) p).length ≤ 15000000 := by
  have H := fits_of W.right
  have hR := W.right.rt r hr
  have h1 := (trLen (s := s) H n).ex r.2 p q ⟨hR, W.noloop r hr⟩ hp h
  have ht := (told H n).1 r.2 p _ hR hp h
  have h2 : trM r.2 ≤ 2 ^ 12 * 60 := Nat.mul_le_mul (Nat.pow_le_pow_right (by omega) (check_deep (W.right.body r hr))) (nodes_le (W.right.body r hr))
  have h3 := ht.2.1
  have h4 : trM r.2 * (q - p + 1) ≤ 2 ^ 12 * 60 * 61 := Nat.mul_le_mul h2 (by omega)
  omega
end
end Go.Proofs.Ytkmcnekjimobhaa
