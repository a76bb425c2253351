/- Marks of nodes, plain: what a parse does to them. -/
import Derived.Test.YtphfckihdhmhpaaCoP
import Derived.Test.YtphfckihdhmhpaaGL
namespace Go.Proofs.Ytphfckihdhmhpaa

theorem missS_marks (σ : PS) (p : Nat) (w : S4) : (missS σ p w).marks = σ.marks := by
  unfold missS
  split
  · rfl
  · split <;> rfl
def bodies (g : List Rl) : List Ex := g.map fun r => r.2
theorem firstN_is (g : List Rl) (i : Nat) : firstN g i = nodesAll ((bodies g).take i) := by
  unfold firstN bodies
  rw [← List.map_take]
  induction g.take i with
  | nil => rw [List.map_nil, List.map_nil, nodesAll]; rfl
  | cons r l ih => rw [List.map_cons, List.map_cons, nodesAll, List.sum_cons, ih]
/-- a rule's first node is no one's kid -/
theorem rule_nopar {g : List Rl} {i : Nat} {r : Rl} (hr : g[i]? = some r) (O : Nat → Prop) : (preLs (bodies g))[firstN g i]? = some r.2 ∧ NoPar (preLs (bodies g)) O (firstN g i) := by
  have hb : (bodies g)[i]? = some r.2 := by unfold bodies; rw [List.getElem?_map, hr]; rfl
  have hs := seg_kids hb
  rw [firstN_is]
  refine ⟨hs.at_, fun a x j h => ?_⟩
  exfalso
  have hx := seg_any h.at_
  have hlt := h.lt
  have hi := h.is
  obtain ⟨y, hy⟩ : ∃ y, (kidsX x)[j]? = some y := ⟨_, List.getElem?_eq_getElem hlt⟩
  obtain ⟨j2, y2, k1, k2, k3, k4⟩ := locate (ks := bodies g) (j := i) (t := a) (by omega)
  have hk := seg_kids k1
  have hu : (preL y2)[a - nodesAll ((bodies g).take j2)]? = some x := by
    have := hk.2 (a - nodesAll ((bodies g).take j2)) (by omega)
    rw [show nodesAll ((bodies g).take j2) + (a - nodesAll ((bodies g).take j2)) = a by omega, h.at_] at this
    exact this.symm
  have hs2 := (seg_all y2 _ _ hu).1
  rw [preL_len] at hs2
  have h3 := nodesAll_take hy
  have h4 := nodes_eq x
  have h5 : 1 ≤ nodes y := by rw [nodes_eq]; omega
  omega
/-- the kids from a number on: they stand there, and their parents are under way -/
def KidsAt (L : List Ex) (O : Nat → Prop) (es : List Ex) (n : Nat) : Prop := ∀ j e, es[j]? = some e → L[n + nodesAll (es.take j)]? = some e ∧ NoPar L O (n + nodesAll (es.take j))
theorem KidsAt.tail {L : List Ex} {O : Nat → Prop} {e : Ex} {es : List Ex} {n : Nat} (h : KidsAt L O (e :: es) n) : KidsAt L O es (n + nodes e) := fun j x hx => by
  have := h (j + 1) x (by simpa using hx)
  rwa [List.take_succ_cons, nodesAll, ← Nat.add_assoc] at this
theorem KidsAt.head {L : List Ex} {O : Nat → Prop} {e : Ex} {es : List Ex} {n : Nat} (h : KidsAt L O (e :: es) n) : L[n]? = some e ∧ NoPar L O n := by
  have := h 0 e rfl
  rwa [List.take_zero, nodesAll, Nat.add_zero] at this
theorem kids_at {es : List Ex} {O : Nat → Prop} {n : Nat} {e : Ex} (he : (preLs es)[n]? = some e) (hO : O n) : KidsAt (preLs es) O (kidsX e) (n + 1) := fun j x hx => by
  have hs := seg_kid (seg_any he) hx
  refine ⟨hs.at_, fun i y k h => ?_⟩
  have := edge_one h ⟨he, (List.getElem?_eq_some_iff.1 hx).1, rfl⟩
  rw [this]
  exact hO
/-- what a step of the parse keeps -/
def Kept (L : List Ex) (O : Nat → Prop) (σ σ1 : PS) : Prop := Cov L O σ1.marks ∧ Mor σ.marks σ1.marks
structure CovJ (g : List Rl) (s : List UInt8) (m : Nat) : Prop where
  try_ : ∀ e n p σ o σ1 O, pk g s true m (.try_ e n) p σ = some (o, σ1) → (preLs (bodies g))[n]? = some e → NoPar (preLs (bodies g)) O n → Cov (preLs (bodies g)) O σ.marks →
    Kept (preLs (bodies g)) O σ σ1 ∧ mkA σ1.marks n ≠ 0 ∧ (o.isSome = true → mkA σ1.marks n % 2 = 1) ∧ (o.isSome = false → mkA σ1.marks n / 2 % 2 = 1)
  node : ∀ e n p σ o σ1 O, pk g s true m (.node e n) p σ = some (o, σ1) → (preLs (bodies g))[n]? = some e → O n → Cov (preLs (bodies g)) O σ.marks →
    Kept (preLs (bodies g)) O σ σ1 ∧ (kindX e = 5 → o.isSome = true → ∀ j, j < (kidsX e).length → mkA σ1.marks (n + 1 + nodesAll ((kidsX e).take j)) % 2 = 1) ∧
      (kindX e = 6 → o.isSome = true → ∃ j, j < (kidsX e).length ∧ mkA σ1.marks (n + 1 + nodesAll ((kidsX e).take j)) % 2 = 1)
  rule : ∀ i p σ o σ1 O, pk g s true m (.rule i) p σ = some (o, σ1) → Cov (preLs (bodies g)) O σ.marks → Kept (preLs (bodies g)) O σ σ1
  seq : ∀ es n p σ o σ1 O, pk g s true m (.seq es n) p σ = some (o, σ1) → KidsAt (preLs (bodies g)) O es n → Cov (preLs (bodies g)) O σ.marks →
    Kept (preLs (bodies g)) O σ σ1 ∧ (o.isSome = true → ∀ j, j < es.length → mkA σ1.marks (n + nodesAll (es.take j)) % 2 = 1)
  alt : ∀ es n p σ o σ1 O, pk g s true m (.alt es n) p σ = some (o, σ1) → KidsAt (preLs (bodies g)) O es n → Cov (preLs (bodies g)) O σ.marks →
    Kept (preLs (bodies g)) O σ σ1 ∧ (o.isSome = true → ∃ j, j < es.length ∧ mkA σ1.marks (n + nodesAll (es.take j)) % 2 = 1)
  one : ∀ k e n p σ o σ1 O, pk g s true m (.one k e n) p σ = some (o, σ1) → (preLs (bodies g))[n + 1]? = some e → NoPar (preLs (bodies g)) O (n + 1) → Cov (preLs (bodies g)) O σ.marks → Kept (preLs (bodies g)) O σ σ1
  rep : ∀ e n p σ o σ1 O, pk g s true m (.rep e n) p σ = some (o, σ1) → (preLs (bodies g))[n]? = some e → NoPar (preLs (bodies g)) O n → Cov (preLs (bodies g)) O σ.marks → Kept (preLs (bodies g)) O σ σ1
theorem Kept.trans {L : List Ex} {O : Nat → Prop} {a b c : PS} (h : Kept L O a b) (k : Kept L O b c) : Kept L O a c := ⟨k.1, h.2.trans k.2⟩
theorem Kept.of_eq {L : List Ex} {O : Nat → Prop} {a b : PS} (h : Cov L O a.marks) (e : b.marks = a.marks) : Kept L O a b := ⟨by rw [e]; exact h, by rw [e]; exact Mor.refl _⟩
theorem covers (g : List Rl) (s : List UInt8) : ∀ m, CovJ g s m
  | 0 => ⟨fun _ _ _ _ _ _ _ h => (by cases h), fun _ _ _ _ _ _ _ h => (by cases h), fun _ _ _ _ _ _ h => (by cases h), fun _ _ _ _ _ _ _ h => (by cases h), fun _ _ _ _ _ _ _ h => (by cases h), fun _ _ _ _ _ _ _ _ h => (by cases h), fun _ _ _ _ _ _ _ h => (by cases h)⟩
  | m + 1 => by
    have ih := covers g s m
    refine ⟨?_, ?_, ?_, ?_, ?_, ?_, ?_⟩
    · intro e n p σ o σ1 O h he hp hC
      simp only [pk] at h
      cases hn : pk g s true m (.node e n) p σ with
      | none => rw [hn] at h; cases h
      | some x =>
        obtain ⟨o', σ'⟩ := x
        rw [hn] at h
        simp only [Option.some.injEq, Prod.mk.injEq] at h
        obtain ⟨rfl, rfl⟩ := h
        obtain ⟨⟨k1, k2⟩, k5, k6⟩ := ih.node e n p σ o' σ' (fun i => O i ∨ i = n) hn he (.inr rfl) (hC.weak fun i h => .inl h)
        obtain ⟨c1, c2, c3, c4, c5⟩ := cov_mark (ok := o'.isSome) he hp k1 k5 k6
        exact ⟨⟨c1, k2.trans c2⟩, c3, c4, c5⟩
    · intro e n p σ o σ1 O h he hO hC
      obtain ⟨k, a, b, c, d, t, ks⟩ := e
      rw [pk_node] at h
      have hkids := kids_at he hO
      have hkx : kidsX (.mk k a b c d t ks) = ks := rfl
      have hkk : kindX (.mk k a b c d t ks) = k := rfl
      rw [hkx] at hkids
      rw [hkx, hkk]
      split at h
      · rename_i h1
        simp only [Option.some.injEq, Prod.mk.injEq] at h
        obtain ⟨rfl, rfl⟩ := h
        exact ⟨Kept.of_eq hC rfl, fun h5 => by omega, fun h6 => by omega⟩
      · split at h
        · rename_i h1 h2
          split at h
          · simp only [Option.some.injEq, Prod.mk.injEq] at h
            obtain ⟨rfl, rfl⟩ := h
            exact ⟨Kept.of_eq hC rfl, fun h5 => by omega, fun h6 => by omega⟩
          · simp only [Option.some.injEq, Prod.mk.injEq] at h
            obtain ⟨rfl, rfl⟩ := h
            exact ⟨Kept.of_eq hC (missS_marks _ _ _), fun h5 => by omega, fun h6 => by omega⟩
        · split at h
          · rename_i h1 h2 h3
            split at h
            · simp only [Option.some.injEq, Prod.mk.injEq] at h
              obtain ⟨rfl, rfl⟩ := h
              exact ⟨Kept.of_eq hC rfl, fun h5 => by omega, fun h6 => by omega⟩
            · simp only [Option.some.injEq, Prod.mk.injEq] at h
              obtain ⟨rfl, rfl⟩ := h
              exact ⟨Kept.of_eq hC (missS_marks _ _ _), fun h5 => by omega, fun h6 => by omega⟩
          · split at h
            · rename_i h1 h2 h3 h4
              exact ⟨ih.rule _ p σ o σ1 O h hC, fun h5 => by omega, fun h6 => by omega⟩
            · split at h
              · rename_i h5
                obtain ⟨k1, k2⟩ := ih.seq ks (n + 1) p σ o σ1 O h hkids hC
                exact ⟨k1, fun _ hs => k2 hs, fun h6 => by omega⟩
              · split at h
                · rename_i h5 h6
                  obtain ⟨k1, k2⟩ := ih.alt ks (n + 1) p σ o σ1 O h hkids hC
                  exact ⟨k1, fun h5' => by omega, fun _ hs => k2 hs⟩
                · rename_i h5 h6
                  cases ks with
                  | nil => cases h
                  | cons e ks =>
                    obtain ⟨k1, k2⟩ := hkids.head
                    exact ⟨ih.one k e n p σ o σ1 O h k1 k2 hC, fun h5' => absurd h5' h5, fun h6' => absurd h6' h6⟩
    · intro i p σ o σ1 O h hC
      simp only [pk] at h
      split at h
      · simp only [Option.some.injEq, Prod.mk.injEq] at h
        obtain ⟨rfl, rfl⟩ := h
        exact Kept.of_eq hC rfl
      · split at h
        · cases h
        · rename_i r hr
          cases hn : pk g s true m (.try_ r.2 (firstN g i)) p σ with
          | none => rw [hn] at h; cases h
          | some x =>
            obtain ⟨o', σ'⟩ := x
            rw [hn] at h
            simp only at h
            split at h
            · cases h
            · simp only [Option.some.injEq, Prod.mk.injEq] at h
              obtain ⟨rfl, rfl⟩ := h
              obtain ⟨q1, q2⟩ := rule_nopar hr O
              exact (ih.try_ _ _ p σ o' σ' O hn q1 q2 hC).1
    · intro es n p σ o σ1 O h hK hC
      cases es with
      | nil =>
        simp only [pk, Option.some.injEq, Prod.mk.injEq] at h
        obtain ⟨rfl, rfl⟩ := h
        exact ⟨Kept.of_eq hC rfl, fun _ j hj => by simp at hj⟩
      | cons e es =>
        simp only [pk] at h
        obtain ⟨q1, q2⟩ := hK.head
        cases hn : pk g s true m (.try_ e n) p σ with
        | none => rw [hn] at h; cases h
        | some x =>
          obtain ⟨o', σ'⟩ := x
          rw [hn] at h
          obtain ⟨k1, k2, k3, k4⟩ := ih.try_ e n p σ o' σ' O hn q1 q2 hC
          cases o' with
          | none =>
            simp only [Option.some.injEq, Prod.mk.injEq] at h
            obtain ⟨rfl, rfl⟩ := h
            exact ⟨k1, fun hs => by cases hs⟩
          | some to =>
            simp only at h
            obtain ⟨r1, r2⟩ := ih.seq es (n + nodes e) to σ' o σ1 O h hK.tail k1.1
            refine ⟨k1.trans r1, fun hs j hj => ?_⟩
            cases j with
            | zero =>
              rw [List.take_zero, nodesAll, Nat.add_zero]
              exact r1.2.b0 _ (k3 rfl)
            | succ j =>
              rw [List.take_succ_cons, nodesAll, ← Nat.add_assoc]
              exact r2 hs j (by simpa using hj)
    · intro es n p σ o σ1 O h hK hC
      cases es with
      | nil =>
        simp only [pk, Option.some.injEq, Prod.mk.injEq] at h
        obtain ⟨rfl, rfl⟩ := h
        exact ⟨Kept.of_eq hC rfl, fun hs => by cases hs⟩
      | cons e es =>
        simp only [pk] at h
        obtain ⟨q1, q2⟩ := hK.head
        cases hn : pk g s true m (.try_ e n) p σ with
        | none => rw [hn] at h; cases h
        | some x =>
          obtain ⟨o', σ'⟩ := x
          rw [hn] at h
          obtain ⟨k1, k2, k3, k4⟩ := ih.try_ e n p σ o' σ' O hn q1 q2 hC
          cases o' with
          | some to =>
            simp only [Option.some.injEq, Prod.mk.injEq] at h
            obtain ⟨rfl, rfl⟩ := h
            exact ⟨k1, fun _ => ⟨0, by simp, by rw [List.take_zero, nodesAll, Nat.add_zero]; exact k3 rfl⟩⟩
          | none =>
            simp only at h
            obtain ⟨r1, r2⟩ := ih.alt es (n + nodes e) p σ' o σ1 O h hK.tail k1.1
            refine ⟨k1.trans r1, fun hs => ?_⟩
            obtain ⟨j, h1, h2⟩ := r2 hs
            exact ⟨j + 1, by simpa using h1, by rw [List.take_succ_cons, nodesAll, ← Nat.add_assoc]; exact h2⟩
    · intro k e n p σ o σ1 O h he hp hC
      simp only [pk] at h
      cases hn : pk g s true m (.try_ e (n + 1)) p σ with
      | none => rw [hn] at h; cases h
      | some x =>
        obtain ⟨o', σ'⟩ := x
        rw [hn] at h
        obtain ⟨k1, -⟩ := ih.try_ e (n + 1) p σ o' σ' O hn he hp hC
        cases o' with
        | none =>
          simp only [Option.some.injEq, Prod.mk.injEq] at h
          obtain ⟨_, rfl⟩ := h
          exact k1
        | some to =>
          simp only at h
          split at h
          · simp only [Option.some.injEq, Prod.mk.injEq] at h
            obtain ⟨_, rfl⟩ := h
            exact k1
          · split at h
            · simp only [Option.some.injEq, Prod.mk.injEq] at h
              obtain ⟨_, rfl⟩ := h
              exact k1
            · split at h
              · simp only [Option.some.injEq, Prod.mk.injEq] at h
                obtain ⟨_, rfl⟩ := h
                exact k1
              · exact k1.trans (ih.rep e (n + 1) to σ' o σ1 O h he hp k1.1)
    · intro e n p σ o σ1 O h he hp hC
      simp only [pk] at h
      cases hn : pk g s true m (.try_ e n) p σ with
      | none => rw [hn] at h; cases h
      | some x =>
        obtain ⟨o', σ'⟩ := x
        rw [hn] at h
        obtain ⟨k1, -⟩ := ih.try_ e n p σ o' σ' O hn he hp hC
        cases o' with
        | none =>
          simp only [Option.some.injEq, Prod.mk.injEq] at h
          obtain ⟨_, rfl⟩ := h
          exact k1
        | some to => exact k1.trans (ih.rep e n to σ' o σ1 O h he hp k1.1)
end Go.Proofs.Ytphfckihdhmhpaa
