/- How many nodes a tree of a meaning has: plain. -/
import Derived.Test.YtndhbdbfjkmloaaJTopTree3
import Derived.Test.YtndhbdbfjkmloaaJTopTree6
import Derived.Test.YtndhbdbfjkmloaaJTopTree7
namespace Go.Proofs.Ytndhbdbfjkmloaa

mutual
/-- all names of an expression, each weighed by its rule -/
def aE (g : List Rl) (zb : Nat → Nat) : Ex → Nat
  | .mk k _ _ _ _ t ks => if k = 4 then zb (fnd g t.data.toList).toNat else aS g zb ks
def aS (g : List Rl) (zb : Nat → Nat) : List Ex → Nat
  | [] => 0
  | e :: es => aE g zb e + aS g zb es
end
mutual
/-- those that may be come to without a byte -/
def zE (g : List Rl) (fs : List Fa) (zb : Nat → Nat) : Ex → Nat
  | .mk k _ _ _ _ t ks => if k = 4 then zb (fnd g t.data.toList).toNat else if k = 5 then zS g fs zb ks else zA g fs zb ks
def zS (g : List Rl) (fs : List Fa) (zb : Nat → Nat) : List Ex → Nat
  | [] => 0
  | e :: es => zE g fs zb e + (if (ofE g fs e).e = false then 0 else zS g fs zb es)
def zA (g : List Rl) (fs : List Fa) (zb : Nat → Nat) : List Ex → Nat
  | [] => 0
  | e :: es => zE g fs zb e + zA g fs zb es
end
mutual
/-- what a walk that takes something costs up to its first byte -/
def gE (g : List Rl) (fs : List Fa) (zb gb : Nat → Nat) : Ex → Nat
  | .mk k _ _ _ _ t ks => if k = 4 then gb (fnd g t.data.toList).toNat else if k = 5 then gS g fs zb gb ks else gA g fs zb gb ks
def gS (g : List Rl) (fs : List Fa) (zb gb : Nat → Nat) : List Ex → Nat
  | [] => 0
  | e :: es => max (gE g fs zb gb e + aS g zb es) (if (ofE g fs e).e = false then 0 else aE g zb e + gS g fs zb gb es)
def gA (g : List Rl) (fs : List Fa) (zb gb : Nat → Nat) : List Ex → Nat
  | [] => 0
  | e :: es => max (gE g fs zb gb e) (gA g fs zb gb es)
end
theorem trAll_appB : ∀ a b : List Tr, trAll (a ++ b) = trAll a + trAll b
  | [], b => by simp [trAll]
  | t :: a, b => by rw [List.cons_append, trAll, trAll, trAll_appB a b]; omega

section
variable {g : List Rl} {s : List UInt8} {fs : List Fa} {zb gb : Nat → Nat}
theorem z_le_a (e : Ex) : zE g fs zb e ≤ aE g zb e := by
  refine Ex.ind (P := fun e => zE g fs zb e ≤ aE g zb e) ?_ e
  intro k a b c d t ks ih
  rw [zE, aE]
  split
  · exact Nat.le_refl _
  · have hS : ∀ es : List Ex, (∀ e ∈ es, e ∈ ks) → zS g fs zb es ≤ aS g zb es := by
      intro es
      induction es with
      | nil => intro _; rw [zS, aS]; omega
      | cons e es ihe =>
        intro hm
        have h1 := ih e (hm e (by simp))
        have h2 := ihe fun x hx => hm x (by simp [hx])
        rw [zS, aS]
        split <;> omega
    have hA : ∀ es : List Ex, (∀ e ∈ es, e ∈ ks) → zA g fs zb es ≤ aS g zb es := by
      intro es
      induction es with
      | nil => intro _; rw [zA, aS]; omega
      | cons e es ihe =>
        intro hm
        have h1 := ih e (hm e (by simp))
        have h2 := ihe fun x hx => hm x (by simp [hx])
        rw [zA, aS]
        omega
    split
    · exact hS ks fun e he => he
    · exact hA ks fun e he => he
theorem g_le_a {M : Nat} (hM : ∀ i, gb i ≤ M) (e : Ex) : gE g fs zb gb e ≤ aE g zb e + M := by
  refine Ex.ind (P := fun e => gE g fs zb gb e ≤ aE g zb e + M) ?_ e
  intro k a b c d t ks ih
  rw [gE, aE]
  split
  · have := hM (fnd g t.data.toList).toNat; omega
  · have hS : ∀ es : List Ex, (∀ e ∈ es, e ∈ ks) → gS g fs zb gb es ≤ aS g zb es + M := by
      intro es
      induction es with
      | nil => intro _; rw [gS, aS]; omega
      | cons e es ihe =>
        intro hm
        have h1 := ih e (hm e (by simp))
        have h2 := ihe fun x hx => hm x (by simp [hx])
        rw [gS, aS]
        refine Nat.max_le.2 ⟨by omega, ?_⟩
        split <;> omega
    have hA : ∀ es : List Ex, (∀ e ∈ es, e ∈ ks) → gA g fs zb gb es ≤ aS g zb es + M := by
      intro es
      induction es with
      | nil => intro _; rw [gA, aS]; omega
      | cons e es ihe =>
        intro hm
        have h1 := ih e (hm e (by simp))
        have h2 := ihe fun x hx => hm x (by simp [hx])
        rw [gA, aS]
        exact Nat.max_le.2 ⟨by omega, by omega⟩
    split
    · exact hS ks fun e he => he
    · exact hA ks fun e he => he
theorem told_of (H : Fits g fs) {n : Nat} {e : Ex} {p q : Nat} (h1 : GoodE g fs e) (h2 : p ≤ s.length) (h3 : evJ g s n (.ex e) p = some (some q)) : p ≤ q ∧ q ≤ s.length ∧ ((ofE g fs e).e = false → p < q) := by
  have ht := (told H n).1 e p _ h1.rt h2 h3
  refine ⟨ht.1, ht.2.1, fun hne => ?_⟩
  rcases Nat.lt_or_ge p q with h | h
  · exact h
  · have := ht.2.2.1 (by have := ht.1; omega)
    rw [hne] at this
    cases this

/-! a walk that takes nothing -/
structure ZLen (g : List Rl) (s : List UInt8) (fs : List Fa) (zb : Nat → Nat) (n : Nat) : Prop where
  ex : ∀ e p, GoodE g fs e → p ≤ s.length → evJ g s n (.ex e) p = some (some p) → trAll (trJ g s n (.ex e) p) ≤ zE g fs zb e
  seq : ∀ es p, (∀ e ∈ es, GoodE g fs e) → p ≤ s.length → evJ g s n (.seq es) p = some (some p) → trAll (trJ g s n (.seq es) p) ≤ zS g fs zb es
  alt : ∀ es p, (∀ e ∈ es, GoodE g fs e) → p ≤ s.length → evJ g s n (.alt es) p = some (some p) → trAll (trJ g s n (.alt es) p) ≤ zA g fs zb es
  rep : ∀ e p, GoodE g fs e → (ofE g fs e).e = false → p ≤ s.length → evJ g s n (.rep e) p = some (some p) → trAll (trJ g s n (.rep e) p) ≤ 0
  kid : ∀ k e p, GoodE g fs e → (k = 7 ∨ k = 8 → (ofE g fs e).e = false) → p ≤ s.length → evJ g s n (.kid k e) p = some (some p) → trAll (trJ g s n (.kid k e) p) ≤ zE g fs zb e
theorem zLen (H : Fits g fs) (hgood : ∀ r ∈ g, GoodE g fs r.2) (hz : ∀ (i : Nat) (r : Rl), g[i]? = some r → 1 + zE g fs zb r.2 ≤ zb i) : ∀ n, ZLen g s fs zb n := by
  intro n
  induction n with
  | zero => exact ⟨fun _ _ _ _ h => (by cases h), fun _ _ _ _ h => (by cases h), fun _ _ _ _ h => (by cases h), fun _ _ _ _ _ h => (by cases h), fun _ _ _ _ _ _ h => (by cases h)⟩
  | succ n ih =>
    have hle : ∀ j p q, evJ g s n j p = some (some q) → p ≤ q := fun j p q h => (nests n j p q h).le
    refine ⟨?_, ?_, ?_, ?_, ?_⟩
    · rintro ⟨k, a, b, c, d, t, ks⟩ p hg hp h
      obtain ⟨hkids, hfit, hname, hloop⟩ := hg.kids
      have hfc := fit_cases hfit
      rw [evJ.eq_def] at h
      rw [trJ.eq_def]
      dsimp only at h ⊢
      by_cases h1 : k = 1 ∨ k = 2 ∨ k = 3
      · rw [if_pos h1]; exact Nat.zero_le _
      rw [if_neg h1]
      rw [if_neg (by omega), if_neg (by omega), if_neg (by omega)] at h
      rw [zE]
      by_cases h4 : k = 4
      · rw [if_pos h4] at h ⊢
        rw [if_pos h4]
        obtain ⟨r, hr, _⟩ := fnd_at (hname h4)
        rw [hr] at h ⊢
        dsimp only at h ⊢
        rw [h]
        have h1 := ih.ex r.2 p (hgood r (List.mem_of_getElem? hr)) hp h
        have h2 := hz _ r hr
        simp only [trAll, trNodes]
        omega
      rw [if_neg h4] at h ⊢
      rw [if_neg h4]
      by_cases h5 : k = 5
      · rw [if_pos h5] at h ⊢
        rw [if_pos h5]
        exact ih.seq ks p hkids hp h
      rw [if_neg h5] at h ⊢
      rw [if_neg h5]
      by_cases h6 : k = 6
      · rw [if_pos h6] at h ⊢
        exact ih.alt ks p hkids hp h
      rw [if_neg h6] at h ⊢
      match ks, show ks.length = 1 by omega with
      | [e], _ =>
      dsimp only at h ⊢
      have := ih.kid k e p (hkids e (by simp)) (fun hk => hloop hk e rfl) hp h
      rw [zA, zA]
      omega
    · rintro es p hgs hp h
      cases es with
      | nil => rw [trJ.eq_def]; exact Nat.zero_le _
      | cons e es =>
        rw [evJ.eq_def] at h
        rw [trJ.eq_def]
        dsimp only at h ⊢
        cases he : evJ g s n (.ex e) p with
        | none => rw [he] at h; cases h
        | some u =>
          rw [he] at h
          cases u with
          | none => cases h
          | some tq =>
            dsimp only at h ⊢
            have hge := hgs e (by simp)
            have h1 := told_of H hge hp he
            have h2 := hle _ _ _ h
            obtain rfl : tq = p := by omega
            have hne : ¬ (ofE g fs e).e = false := fun hh => by have := h1.2.2 hh; omega
            rw [zS, if_neg hne, trAll_appB]
            exact Nat.add_le_add (ih.ex e tq hge hp he) (ih.seq es tq (fun x hx => hgs x (by simp [hx])) hp h)
    · rintro es p hgs hp h
      cases es with
      | nil => rw [trJ.eq_def]; exact Nat.zero_le _
      | cons e es =>
        rw [evJ.eq_def] at h
        rw [trJ.eq_def]
        dsimp only at h ⊢
        rw [zA]
        cases he : evJ g s n (.ex e) p with
        | none => rw [he] at h; cases h
        | some u =>
          rw [he] at h
          cases u with
          | none =>
            dsimp only at h ⊢
            have := ih.alt es p (fun x hx => hgs x (by simp [hx])) hp h
            omega
          | some tq =>
            dsimp only at h ⊢
            injection h with h
            injection h with h
            subst h
            have := ih.ex e tq (hgs e (by simp)) hp he
            omega
    · rintro e p hge hne hp h
      rw [evJ.eq_def] at h
      rw [trJ.eq_def]
      dsimp only at h ⊢
      cases he : evJ g s n (.ex e) p with
      | none => rw [he] at h; cases h
      | some u =>
        rw [he] at h
        cases u with
        | none => exact Nat.zero_le _
        | some tq =>
          dsimp only at h ⊢
          have h1 := told_of H hge hp he
          have h2 := hle _ _ _ h
          have := h1.2.2 hne
          omega
    · rintro k e p hge hne hp h
      rw [evJ.eq_def] at h
      rw [trJ.eq_def]
      dsimp only at h ⊢
      by_cases k7 : k = 7
      · rw [if_pos k7] at h ⊢
        exact Nat.le_trans (ih.rep e p hge (hne (.inl k7)) hp h) (Nat.zero_le _)
      rw [if_neg k7] at h ⊢
      cases he : evJ g s n (.ex e) p with
      | none => rw [he] at h; cases h
      | some u =>
        rw [he] at h
        cases u with
        | none =>
          dsimp only
          have : (if k = 8 then ([] : List Tr) else if k = 9 then [] else []) = [] := by simp
          rw [this]
          exact Nat.zero_le _
        | some tq =>
          dsimp only at h ⊢
          have h1 := told_of H hge hp he
          by_cases k8 : k = 8
          · rw [if_pos k8] at h ⊢
            have h2 := hle _ _ _ h
            have := h1.2.2 (hne (.inr k8))
            omega
          rw [if_neg k8] at h ⊢
          by_cases k9 : k = 9
          · rw [if_pos k9] at h ⊢
            injection h with h
            injection h with h
            subst h
            exact ih.ex e tq hge hp he
          · rw [if_neg k9]
            exact Nat.zero_le _

theorem len_add {x y m D : Nat} (h : x + y = m) : x * D + y * D = m * D := by rw [← Nat.add_mul, h]
theorem len_one {x D : Nat} (h : 0 < x) : D + (x - 1) * D = x * D := by rw [Nat.add_comm, ← Nat.succ_mul, Nat.succ_eq_add_one, Nat.sub_add_cancel h]
structure PLen (g : List Rl) (s : List UInt8) (fs : List Fa) (zb gb : Nat → Nat) (am D : Nat) (n : Nat) : Prop where
  ex : ∀ e p q, GoodE g fs e → aE g zb e ≤ am → p ≤ s.length → p < q → evJ g s n (.ex e) p = some (some q) → trAll (trJ g s n (.ex e) p) ≤ gE g fs zb gb e + (q - p - 1) * D
  seq : ∀ es p q, (∀ e ∈ es, GoodE g fs e) → aS g zb es ≤ am → p ≤ s.length → p < q → evJ g s n (.seq es) p = some (some q) → trAll (trJ g s n (.seq es) p) ≤ gS g fs zb gb es + (q - p - 1) * D
  seqL : ∀ es p q, (∀ e ∈ es, GoodE g fs e) → aS g zb es ≤ am → p ≤ s.length → evJ g s n (.seq es) p = some (some q) → trAll (trJ g s n (.seq es) p) ≤ aS g zb es + (q - p) * D
  alt : ∀ es p q, (∀ e ∈ es, GoodE g fs e) → aS g zb es ≤ am → p ≤ s.length → p < q → evJ g s n (.alt es) p = some (some q) → trAll (trJ g s n (.alt es) p) ≤ gA g fs zb gb es + (q - p - 1) * D
  rep : ∀ e p q, GoodE g fs e → aE g zb e ≤ am → (ofE g fs e).e = false → p ≤ s.length → p < q → evJ g s n (.rep e) p = some (some q) → trAll (trJ g s n (.rep e) p) ≤ gE g fs zb gb e + (q - p - 1) * D
  repL : ∀ e p q, GoodE g fs e → aE g zb e ≤ am → (ofE g fs e).e = false → p ≤ s.length → evJ g s n (.rep e) p = some (some q) → trAll (trJ g s n (.rep e) p) ≤ (q - p) * D
  kid : ∀ k e p q, GoodE g fs e → aE g zb e ≤ am → (k = 7 ∨ k = 8 → (ofE g fs e).e = false) → p ≤ s.length → p < q → evJ g s n (.kid k e) p = some (some q) → trAll (trJ g s n (.kid k e) p) ≤ gE g fs zb gb e + (q - p - 1) * D
theorem pLen (H : Fits g fs) (hgood : ∀ r ∈ g, GoodE g fs r.2) (hz : ∀ (i : Nat) (r : Rl), g[i]? = some r → 1 + zE g fs zb r.2 ≤ zb i) (hgb : ∀ (i : Nat) (r : Rl), g[i]? = some r → 1 + gE g fs zb gb r.2 ≤ gb i)
    {am gm D : Nat} (ham : ∀ r ∈ g, aE g zb r.2 ≤ am) (hgm : ∀ i, gb i ≤ gm) (hD : am + gm ≤ D) : ∀ n, PLen g s fs zb gb am D n := by
  intro n
  induction n with
  | zero => exact ⟨fun _ _ _ _ _ _ _ h => (by cases h), fun _ _ _ _ _ _ _ h => (by cases h), fun _ _ _ _ _ _ h => (by cases h), fun _ _ _ _ _ _ _ h => (by cases h), fun _ _ _ _ _ _ _ _ h => (by cases h), fun _ _ _ _ _ _ _ h => (by cases h), fun _ _ _ _ _ _ _ _ _ h => (by cases h)⟩
  | succ n ih =>
    have hle : ∀ j p q, evJ g s n j p = some (some q) → p ≤ q := fun j p q h => (nests n j p q h).le
    have Z := zLen (s := s) H hgood hz n
    have hgD : ∀ e, aE g zb e ≤ am → gE g fs zb gb e ≤ D := fun e he => by have := g_le_a (g := g) (fs := fs) (zb := zb) hgm e; omega
    refine ⟨?_, ?_, ?_, ?_, ?_, ?_, ?_⟩
    · rintro ⟨k, a, b, c, d, t, ks⟩ p q hg hae hp hpq h
      obtain ⟨hkids, hfit, hname, hloop⟩ := hg.kids
      have hfc := fit_cases hfit
      rw [evJ.eq_def] at h
      rw [trJ.eq_def]
      dsimp only at h ⊢
      by_cases h1 : k = 1 ∨ k = 2 ∨ k = 3
      · rw [if_pos h1]; exact Nat.zero_le _
      rw [if_neg h1]
      rw [if_neg (by omega), if_neg (by omega), if_neg (by omega)] at h
      rw [gE]
      rw [aE] at hae
      by_cases h4 : k = 4
      · rw [if_pos h4] at h ⊢
        rw [if_pos h4]
        obtain ⟨r, hr, _⟩ := fnd_at (hname h4)
        rw [hr] at h ⊢
        dsimp only at h ⊢
        rw [h]
        have hm := List.mem_of_getElem? hr
        have h1 := ih.ex r.2 p q (hgood r hm) (ham r hm) hp hpq h
        have h2 := hgb _ r hr
        simp only [trAll, trNodes]
        omega
      rw [if_neg h4] at h ⊢ hae
      rw [if_neg h4]
      by_cases h5 : k = 5
      · rw [if_pos h5] at h ⊢
        rw [if_pos h5]
        exact ih.seq ks p q hkids hae hp hpq h
      rw [if_neg h5] at h ⊢
      rw [if_neg h5]
      by_cases h6 : k = 6
      · rw [if_pos h6] at h ⊢
        exact ih.alt ks p q hkids hae hp hpq h
      rw [if_neg h6] at h ⊢
      match ks, show ks.length = 1 by omega with
      | [e], _ =>
      dsimp only at h ⊢
      rw [aS, aS] at hae
      have := ih.kid k e p q (hkids e (by simp)) (by omega) (fun hk => hloop hk e rfl) hp hpq h
      rw [gA, gA]
      have := Nat.le_max_left (gE g fs zb gb e) 0
      omega
    · rintro es p q hgs hae hp hpq h
      cases es with
      | nil => rw [trJ.eq_def]; exact Nat.zero_le _
      | cons e es =>
        rw [evJ.eq_def] at h
        rw [trJ.eq_def]
        dsimp only at h ⊢
        rw [aS] at hae
        cases he : evJ g s n (.ex e) p with
        | none => rw [he] at h; cases h
        | some u =>
          rw [he] at h
          cases u with
          | none => cases h
          | some tq =>
            dsimp only at h ⊢
            have hge := hgs e (by simp)
            have hgs' : ∀ x ∈ es, GoodE g fs x := fun x hx => hgs x (by simp [hx])
            have h1 := told_of H hge hp he
            have h2 := hle _ _ _ h
            rw [gS, trAll_appB]
            rcases Nat.lt_or_ge p tq with hlt | hge'
            · have l1 := ih.ex e p tq hge (by omega) hp hlt he
              have l2 := ih.seqL es tq q hgs' (by omega) h1.2.1 h
              have l3 := len_add (x := tq - p - 1) (y := q - tq) (m := q - p - 1) (D := D) (by omega)
              have := Nat.le_max_left (gE g fs zb gb e + aS g zb es) (if (ofE g fs e).e = false then 0 else aE g zb e + gS g fs zb gb es)
              omega
            · obtain rfl : tq = p := by omega
              have hne : ¬ (ofE g fs e).e = false := fun hh => by have := h1.2.2 hh; omega
              have l1 := Z.ex e tq hge hp he
              have l0 := z_le_a (g := g) (fs := fs) (zb := zb) e
              have l2 := ih.seq es tq q hgs' (by omega) hp hpq h
              rw [if_neg hne]
              have := Nat.le_max_right (gE g fs zb gb e + aS g zb es) (aE g zb e + gS g fs zb gb es)
              omega
    · rintro es p q hgs hae hp h
      cases es with
      | nil => rw [trJ.eq_def]; exact Nat.zero_le _
      | cons e es =>
        rw [evJ.eq_def] at h
        rw [trJ.eq_def]
        dsimp only at h ⊢
        rw [aS] at hae
        cases he : evJ g s n (.ex e) p with
        | none => rw [he] at h; cases h
        | some u =>
          rw [he] at h
          cases u with
          | none => cases h
          | some tq =>
            dsimp only at h ⊢
            have hge := hgs e (by simp)
            have hgs' : ∀ x ∈ es, GoodE g fs x := fun x hx => hgs x (by simp [hx])
            have h1 := told_of H hge hp he
            have h2 := hle _ _ _ h
            have l2 := ih.seqL es tq q hgs' (by omega) h1.2.1 h
            rw [aS, trAll_appB]
            rcases Nat.lt_or_ge p tq with hlt | hge'
            · have l1 := ih.ex e p tq hge (by omega) hp hlt he
              have l3 := len_add (x := tq - p - 1) (y := q - tq) (m := q - p - 1) (D := D) (by omega)
              have l4 := len_one (x := q - p) (D := D) (by omega)
              have l5 := g_le_a (g := g) (fs := fs) (zb := zb) hgm e
              omega
            · obtain rfl : tq = p := by omega
              have l1 := Z.ex e tq hge hp he
              have l0 := z_le_a (g := g) (fs := fs) (zb := zb) e
              omega
    · rintro es p q hgs hae hp hpq h
      cases es with
      | nil => rw [trJ.eq_def]; exact Nat.zero_le _
      | cons e es =>
        rw [evJ.eq_def] at h
        rw [trJ.eq_def]
        dsimp only at h ⊢
        rw [aS] at hae
        rw [gA]
        have m1 := Nat.le_max_left (gE g fs zb gb e) (gA g fs zb gb es)
        have m2 := Nat.le_max_right (gE g fs zb gb e) (gA g fs zb gb es)
        cases he : evJ g s n (.ex e) p with
        | none => rw [he] at h; cases h
        | some u =>
          rw [he] at h
          cases u with
          | none =>
            dsimp only at h ⊢
            have := ih.alt es p q (fun x hx => hgs x (by simp [hx])) (by omega) hp hpq h
            omega
          | some tq =>
            dsimp only at h ⊢
            injection h with h
            injection h with h
            subst h
            have := ih.ex e p tq (hgs e (by simp)) (by omega) hp hpq he
            omega
    · rintro e p q hge hae hne hp hpq h
      rw [evJ.eq_def] at h
      rw [trJ.eq_def]
      dsimp only at h ⊢
      cases he : evJ g s n (.ex e) p with
      | none => rw [he] at h; cases h
      | some u =>
        rw [he] at h
        cases u with
        | none => exact Nat.zero_le _
        | some tq =>
          dsimp only at h ⊢
          have h1 := told_of H hge hp he
          have h2 := hle _ _ _ h
          have h3 := h1.2.2 hne
          have l1 := ih.ex e p tq hge hae hp h3 he
          have l2 := ih.repL e tq q hge hae hne h1.2.1 h
          have l3 := len_add (x := tq - p - 1) (y := q - tq) (m := q - p - 1) (D := D) (by omega)
          rw [trAll_appB]
          omega
    · rintro e p q hge hae hne hp h
      rw [evJ.eq_def] at h
      rw [trJ.eq_def]
      dsimp only at h ⊢
      cases he : evJ g s n (.ex e) p with
      | none => rw [he] at h; cases h
      | some u =>
        rw [he] at h
        cases u with
        | none => exact Nat.zero_le _
        | some tq =>
          dsimp only at h ⊢
          have h1 := told_of H hge hp he
          have h2 := hle _ _ _ h
          have h3 := h1.2.2 hne
          have l1 := ih.ex e p tq hge hae hp h3 he
          have l2 := ih.repL e tq q hge hae hne h1.2.1 h
          have l3 := len_add (x := tq - p - 1) (y := q - tq) (m := q - p - 1) (D := D) (by omega)
          have l4 := len_one (x := q - p) (D := D) (by omega)
          have l5 := hgD e hae
          rw [trAll_appB]
          omega
    · rintro k e p q hge hae hne hp hpq h
      rw [evJ.eq_def] at h
      rw [trJ.eq_def]
      dsimp only at h ⊢
      by_cases k7 : k = 7
      · rw [if_pos k7] at h ⊢
        exact ih.rep e p q hge hae (hne (.inl k7)) hp hpq h
      rw [if_neg k7] at h ⊢
      cases he : evJ g s n (.ex e) p with
      | none => rw [he] at h; cases h
      | some u =>
        rw [he] at h
        cases u with
        | none =>
          dsimp only
          have : (if k = 8 then ([] : List Tr) else if k = 9 then [] else []) = [] := by simp
          rw [this]
          exact Nat.zero_le _
        | some tq =>
          dsimp only at h ⊢
          have h1 := told_of H hge hp he
          by_cases k8 : k = 8
          · rw [if_pos k8] at h ⊢
            have h2 := hle _ _ _ h
            have h3 := h1.2.2 (hne (.inr k8))
            have l1 := ih.ex e p tq hge hae hp h3 he
            have l2 := ih.repL e tq q hge hae (hne (.inr k8)) h1.2.1 h
            have l3 := len_add (x := tq - p - 1) (y := q - tq) (m := q - p - 1) (D := D) (by omega)
            rw [trAll_appB]
            omega
          rw [if_neg k8] at h ⊢
          by_cases k9 : k = 9
          · rw [if_pos k9] at h ⊢
            injection h with h
            injection h with h
            subst h
            exact ih.ex e p tq hge hae hp hpq he
          · rw [if_neg k9]
            exact Nat.zero_le _
end
end Go.Proofs.Ytndhbdbfjkmloaa
