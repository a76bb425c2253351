/- What is missed: plain. -/
import Derived.Test.YtlamphneimpdlaaPkP
import Derived.Test.YtlamphneimpdlaaGB
import Derived.Test.YtlamphneimpdlaaGF
namespace Go.Proofs.Ytlamphneimpdlaa
open Go.RowKit

def hasS (s : S4) (x : Nat) : Bool := hasE s.a s.b s.c s.d x
structure U4 (s : S4) : Prop where
  a : U64 s.a
  b : U64 s.b
  c : U64 s.c
  d : U64 s.d
theorem or_toNat {x y : Int} (hx : U64 x) (hy : U64 y) : (orU x y).toNat = x.toNat ||| y.toNat := by
  obtain ⟨u, rfl⟩ := hx.nat; obtain ⟨v, rfl⟩ := hy.nat
  rw [orU_bv]
  simp
theorem orS_has {s t : S4} (hs : U4 s) (ht : U4 t) {x : Nat} (hx : x < 256) : hasS (S4.map2 orU s t) x = (hasS s x || hasS t x) := by
  unfold hasS hasE hasN S4.map2
  simp only
  rw [or_toNat hs.a ht.a, or_toNat hs.b ht.b, or_toNat hs.c ht.c, or_toNat hs.d ht.d]
  rcases (by omega : x / 64 = 0 ∨ x / 64 = 1 ∨ x / 64 = 2 ∨ x / 64 = 3) with h | h | h | h <;> rw [h] <;> simp [Nat.testBit_or]
theorem orS_u {s t : S4} (hs : U4 s) (ht : U4 t) : U4 (S4.map2 orU s t) := ⟨hs.a.or ht.a, hs.b.or ht.b, hs.c.or ht.c, hs.d.or ht.d⟩
theorem noS_u : U4 noS := ⟨by simp [noS, U64], by simp [noS, U64], by simp [noS, U64], by simp [noS, U64]⟩
theorem noS_has (x : Nat) : hasS noS x = false := by
  unfold hasS hasE hasN noS
  rcases (by omega : x / 64 = 0 ∨ x / 64 = 1 ∨ x / 64 = 2 ∨ x / 64 = 3 ∨ 4 ≤ x / 64) with h | h | h | h | h
  · rw [h]; simp
  · rw [h]; simp
  · rw [h]; simp
  · rw [h]; simp
  · obtain ⟨m, hm⟩ : ∃ m, x / 64 = m + 4 := ⟨x / 64 - 4, by omega⟩
    rw [hm]; simp
theorem rangeL_in (lo : Nat) : ∀ n, lo + n ≤ 256 → ∀ j, j < 256 → hasN (rangeL lo n) j = decide (lo ≤ j ∧ j < lo + n)
  | 0, _, j, _ => by
    have : ¬ (lo ≤ j ∧ j < lo + 0) := by omega
    rw [decide_eq_false this]
    unfold hasN rangeL
    rcases (by omega : j / 64 = 0 ∨ j / 64 = 1 ∨ j / 64 = 2 ∨ 3 ≤ j / 64) with h | h | h | h
    · rw [h]; simp
    · rw [h]; simp
    · rw [h]; simp
    · obtain ⟨m, hm⟩ : ∃ m, j / 64 = m + 3 := ⟨j / 64 - 3, by omega⟩
      rw [hm]
      cases m <;> simp
  | n + 1, h, j, hj => by
    have ih := rangeL_in lo n (by omega) j hj
    have hl := rangeL_len lo n
    unfold hasN at ih ⊢
    rw [rangeL, List.getD_eq_getElem?_getD, List.getElem?_set]
    split
    · rename_i he
      rw [if_pos (by omega)]
      simp only [Option.getD_some]
      rw [Nat.testBit_or, he, ih, Nat.testBit_two_pow]
      have e1 : ((lo + n) % 64 = j % 64) ↔ lo + n = j := by omega
      rw [Bool.eq_iff_iff]
      simp only [Bool.or_eq_true, decide_eq_true_iff, e1]
      omega
    · rename_i he
      rw [← List.getD_eq_getElem?_getD, ih, Bool.eq_iff_iff]
      simp only [decide_eq_true_iff]
      constructor
      · intro h1; omega
      · intro h1
        refine ⟨h1.1, ?_⟩
        rcases Nat.eq_or_lt_of_le (show j + 1 ≤ lo + (n + 1) from h1.2) with e | e
        · exfalso
          apply he
          rw [show lo + n = j from by omega]
        · omega
theorem oneS_has {c x : Nat} (hc : c < 256) (hx : x < 256) : hasS (oneS c) x = decide (x = c) := by
  have h := rangeL_in c 1 (by omega) x hx
  obtain ⟨x0, x1, x2, x3, he⟩ := four_of (rangeL_len c 1)
  unfold hasS hasE oneS
  rw [he] at h ⊢
  simp only [List.getD_cons_zero, List.getD_cons_succ, Int.toNat_natCast]
  rw [h, Bool.eq_iff_iff]
  simp only [decide_eq_true_iff]
  omega
theorem nat_u {n : Nat} (h : n < 18446744073709551616) : U64 (n : Int) := ⟨by omega, by omega⟩
theorem oneS_u (c : Nat) : U4 (oneS c) := ⟨nat_u (rangeL_lt c 1 0), nat_u (rangeL_lt c 1 1), nat_u (rangeL_lt c 1 2), nat_u (rangeL_lt c 1 3)⟩
theorem alike_stop (s : List UInt8) (p : Nat) (t : List UInt8) : ∀ (f k : Nat), k + f = t.length → (∀ j, j < k → p + j < s.length ∧ bt s (p + j) = bt t j) → litAt s p t = false → p + alike s p t f k < s.length → bt s (p + alike s p t f k) ≠ bt t (alike s p t f k) := by
  intro f
  induction f with
  | zero =>
    intro k hk hs hl
    exfalso
    have := (alike_spec s p t 0 k hk hs hl).1
    unfold alike at this
    omega
  | succ f ih =>
    intro k hk hs hl
    unfold alike
    split
    · rename_i h
      exact ih (k + 1) (by omega) (fun j hj => by
        by_cases hjk : j < k
        · exact hs j hjk
        · obtain rfl : j = k := by omega
          exact h) hl
    · rename_i h
      intro h1 h2
      exact h ⟨h1, h2⟩

/-- what was wanted at the farthest place is not there -/
def MissI (s : List UInt8) (σ : PS) : Prop := U4 σ.want ∧ ((σ.far = -1 ∧ σ.want = noS) ∨ ∃ q : Nat, σ.far = q ∧ q ≤ s.length ∧ (q < s.length → hasS σ.want (bt s q) = false))
theorem missS_I {s : List UInt8} {σ : PS} {p : Nat} {w : S4} (h : MissI s σ) (hw : U4 w) (hp : p ≤ s.length) (hn : p < s.length → hasS w (bt s p) = false) : MissI s (missS σ p w) := by
  unfold missS
  split
  · refine ⟨orS_u noS_u hw, .inr ⟨p, rfl, hp, fun hlt => ?_⟩⟩
    simp only
    rw [orS_has noS_u hw (bt_lt _ _), noS_has, hn hlt]
    rfl
  · rename_i h1
    split
    · rename_i h2
      refine ⟨orS_u h.1 hw, ?_⟩
      rcases h.2 with ⟨h3, _⟩ | ⟨q, h3, h4, h5⟩
      · omega
      · obtain rfl : q = p := by omega
        refine .inr ⟨q, h3, hp, fun hlt => ?_⟩
        simp only
        rw [orS_has h.1 hw (bt_lt _ _), h5 hlt, hn hlt]
        rfl
    · exact h
theorem missS_far (σ : PS) (p : Nat) (w : S4) : 0 ≤ (missS σ p w).far := by
  unfold missS
  split
  · simp only; omega
  · rename_i h1
    split
    · simp only; omega
    · omega

/-- no node of kind 11 -/
inductive NoNot : Ex → Prop
  | mk (k a b c d : Int) (t : ByteArray) (ks : List Ex) : k ≠ 11 → (k = 6 → ks ≠ []) → (∀ e ∈ ks, NoNot e) → NoNot (.mk k a b c d t ks)
/-- each expression of a job -/
def PJob.all (P : Ex → Prop) : PJob → Prop
  | .node e _ => P e
  | .try_ e _ => P e
  | .rule _ => True
  | .seq es _ => ∀ e ∈ es, P e
  | .alt es _ => ∀ e ∈ es, P e
  | .rep e _ => P e
  | .one _ e _ => P e
def PJob.notOne (σ : PS) : PJob → Prop
  | .one k _ _ => k ≠ 11
  | .node (.mk k _ _ _ _ _ _) _ => k ≠ 11
  | .alt [] _ => 0 ≤ σ.far
  | _ => True
theorem notOne_alt {σ : PS} {es : List Ex} {n : Nat} (h : es = [] → 0 ≤ σ.far) : PJob.notOne σ (.alt es n) := by
  cases es with
  | nil => exact h rfl
  | cons e es => trivial
/-- something that failed has missed something -/
def FailI (σ : PS) : Prop := ∀ k, recall σ.seen k = some none → 0 ≤ σ.far
theorem markS_far (hook : Bool) (σ : PS) (n : Nat) (ok : Bool) : (markS hook σ n ok).far = σ.far ∧ (markS hook σ n ok).want = σ.want ∧ (markS hook σ n ok).seen = σ.seen := by
  unfold markS
  split <;> exact ⟨rfl, rfl, rfl⟩
theorem recall_last {l : List ((Nat × Nat) × Option Nat)} {k k' : Nat × Nat} {v : Option Nat} {x : Option Nat} (h : recall (l ++ [(k, v)]) k' = some x) : recall l k' = some x ∨ x = v := by
  rw [recall_app] at h
  split at h
  · exact .inl h
  · split at h
    · injection h with h; exact .inr h.symm
    · cases h

theorem pk_miss {g : List Rl} {s : List UInt8} {hook : Bool} (hg : ∀ r ∈ g, WfE r.2) : ∀ m j p σ o σ1, pk g s hook m j p σ = some (o, σ1) → p ≤ s.length → Bound s.length σ → PJob.all WfE j → MissI s σ → MissI s σ1 := by
  intro m
  induction m with
  | zero => intro j p σ o σ1 h; cases h
  | succ m ih =>
    intro j p σ o σ1 h hp hB hW hM
    cases j with
    | try_ e n =>
      simp only [pk] at h
      cases he : pk g s hook m (.node e n) p σ with
      | none => rw [he] at h; cases h
      | some x =>
        obtain ⟨o', σ'⟩ := x
        rw [he] at h
        simp only [Option.some.injEq, Prod.mk.injEq] at h
        obtain ⟨rfl, rfl⟩ := h
        have h1 := ih _ _ _ _ _ he hp hB hW hM
        obtain ⟨m1, m2, m3⟩ := markS_far hook σ' n o'.isSome
        unfold MissI
        rw [m1, m2]
        exact h1
    | rule i =>
      simp only [pk] at h
      cases hs : recall σ.seen (i, p) with
      | some o' =>
        rw [hs] at h
        simp only [Option.some.injEq, Prod.mk.injEq] at h
        obtain ⟨rfl, rfl⟩ := h
        exact hM
      | none =>
        rw [hs] at h
        simp only at h
        cases hgi : g[i]? with
        | none => rw [hgi] at h; cases h
        | some r =>
          rw [hgi] at h
          simp only at h
          cases he : pk g s hook m (.try_ r.2 (firstN g i)) p σ with
          | none => rw [he] at h; cases h
          | some x =>
            obtain ⟨o', σ'⟩ := x
            rw [he] at h
            simp only at h
            split at h
            · cases h
            · simp only [Option.some.injEq, Prod.mk.injEq] at h
              obtain ⟨rfl, rfl⟩ := h
              have h1 : MissI s σ' := ih _ _ _ _ _ he hp hB (hg r (List.mem_of_getElem? hgi)) hM
              exact h1
    | seq es n =>
      cases es with
      | nil =>
        simp only [pk, Option.some.injEq, Prod.mk.injEq] at h
        obtain ⟨rfl, rfl⟩ := h
        exact hM
      | cons e es =>
        simp only [pk] at h
        cases he : pk g s hook m (.try_ e n) p σ with
        | none => rw [he] at h; cases h
        | some x =>
          obtain ⟨o', σ'⟩ := x
          rw [he] at h
          have h1 := ih _ _ _ _ _ he hp hB (hW e (by simp)) hM
          obtain ⟨b1, b2⟩ := pk_bound _ _ _ _ _ _ _ _ _ he hp hB
          cases o' with
          | none =>
            simp only [Option.some.injEq, Prod.mk.injEq] at h
            obtain ⟨rfl, rfl⟩ := h
            exact h1
          | some to => exact ih _ _ _ _ _ h (b1 to rfl) b2 (fun x hx => hW x (by simp [hx])) h1
    | alt es n =>
      cases es with
      | nil =>
        simp only [pk, Option.some.injEq, Prod.mk.injEq] at h
        obtain ⟨rfl, rfl⟩ := h
        exact hM
      | cons e es =>
        simp only [pk] at h
        cases he : pk g s hook m (.try_ e n) p σ with
        | none => rw [he] at h; cases h
        | some x =>
          obtain ⟨o', σ'⟩ := x
          rw [he] at h
          have h1 := ih _ _ _ _ _ he hp hB (hW e (by simp)) hM
          obtain ⟨b1, b2⟩ := pk_bound _ _ _ _ _ _ _ _ _ he hp hB
          cases o' with
          | some to =>
            simp only [Option.some.injEq, Prod.mk.injEq] at h
            obtain ⟨rfl, rfl⟩ := h
            exact h1
          | none => exact ih _ _ _ _ _ h hp b2 (fun x hx => hW x (by simp [hx])) h1
    | rep e n =>
      simp only [pk] at h
      cases he : pk g s hook m (.try_ e n) p σ with
      | none => rw [he] at h; cases h
      | some x =>
        obtain ⟨o', σ'⟩ := x
        rw [he] at h
        have h1 := ih _ _ _ _ _ he hp hB hW hM
        obtain ⟨b1, b2⟩ := pk_bound _ _ _ _ _ _ _ _ _ he hp hB
        cases o' with
        | none =>
          simp only [Option.some.injEq, Prod.mk.injEq] at h
          obtain ⟨rfl, rfl⟩ := h
          exact h1
        | some to => exact ih _ _ _ _ _ h (b1 to rfl) b2 hW h1
    | node e n =>
      obtain ⟨k, a, b, c, d, t, ks⟩ := e
      rw [pk_node] at h
      have hW' : WfE (.mk k a b c d t ks) := hW
      cases hW' with
      | mk _ _ _ _ _ _ _ hk ua ub uc ud hks =>
      split at h
      · simp only [Option.some.injEq, Prod.mk.injEq] at h
        obtain ⟨rfl, rfl⟩ := h
        exact hM
      split at h
      · split at h
        · simp only [Option.some.injEq, Prod.mk.injEq] at h
          obtain ⟨rfl, rfl⟩ := h
          exact hM
        · rename_i hno
          simp only [Option.some.injEq, Prod.mk.injEq] at h
          obtain ⟨rfl, rfl⟩ := h
          refine missS_I hM ⟨ua, ub, uc, ud⟩ hp fun hlt => ?_
          cases hb : hasE a b c d (bt s p) with
          | true => exact absurd ⟨hlt, hb⟩ hno
          | false => exact hb
      split at h
      · split at h
        · simp only [Option.some.injEq, Prod.mk.injEq] at h
          obtain ⟨rfl, rfl⟩ := h
          exact hM
        · rename_i hno
          have hno' : litAt s p t.data.toList = false := by
            cases hb : litAt s p t.data.toList with
            | true => exact absurd hb hno
            | false => rfl
          simp only [Option.some.injEq, Prod.mk.injEq] at h
          obtain ⟨rfl, rfl⟩ := h
          refine missS_I hM (oneS_u _) (matchN_lt s p t.data.toList hno' hp).2 fun hlt => ?_
          rw [oneS_has (bt_lt _ _) (bt_lt _ _), decide_eq_false]
          exact alike_stop s p t.data.toList _ 0 (by omega) (fun j hj => by omega) hno' hlt
      split at h
      · exact ih _ _ _ _ _ h hp hB trivial hM
      split at h
      · exact ih _ _ _ _ _ h hp hB hks hM
      split at h
      · exact ih _ _ _ _ _ h hp hB hks hM
      cases ks with
      | nil => cases h
      | cons e es => exact ih _ _ _ _ _ h hp hB (hks e (by simp)) hM
    | one k e n =>
      simp only [pk] at h
      cases he : pk g s hook m (.try_ e (n + 1)) p σ with
      | none => rw [he] at h; cases h
      | some x =>
        obtain ⟨o', σ'⟩ := x
        rw [he] at h
        have h1 := ih _ _ _ _ _ he hp hB hW hM
        obtain ⟨b1, b2⟩ := pk_bound _ _ _ _ _ _ _ _ _ he hp hB
        cases o' with
        | none =>
          simp only [Option.some.injEq, Prod.mk.injEq] at h
          obtain ⟨rfl, rfl⟩ := h
          exact h1
        | some to =>
          simp only at h
          split at h
          · simp only [Option.some.injEq, Prod.mk.injEq] at h
            obtain ⟨rfl, rfl⟩ := h
            exact h1
          split at h
          · simp only [Option.some.injEq, Prod.mk.injEq] at h
            obtain ⟨rfl, rfl⟩ := h
            exact h1
          split at h
          · simp only [Option.some.injEq, Prod.mk.injEq] at h
            obtain ⟨rfl, rfl⟩ := h
            exact h1
          exact ih _ _ _ _ _ h (b1 to rfl) b2 hW h1

/-- where nothing is a not, what fails has missed something -/
theorem pk_fail {g : List Rl} {s : List UInt8} {hook : Bool} (hg : ∀ r ∈ g, NoNot r.2) : ∀ m j p σ o σ1, pk g s hook m j p σ = some (o, σ1) → PJob.all NoNot j → PJob.notOne σ j → FailI σ → FailI σ1 ∧ (o = none → 0 ≤ σ1.far) ∧ (0 ≤ σ.far → 0 ≤ σ1.far) := by
  intro m
  induction m with
  | zero => intro j p σ o σ1 h; cases h
  | succ m ih =>
    intro j p σ o σ1 h hW hN hM
    cases j with
    | try_ e n =>
      simp only [pk] at h
      cases he : pk g s hook m (.node e n) p σ with
      | none => rw [he] at h; cases h
      | some x =>
        obtain ⟨o', σ'⟩ := x
        rw [he] at h
        simp only [Option.some.injEq, Prod.mk.injEq] at h
        obtain ⟨rfl, rfl⟩ := h
        have hne : NoNot e := hW
        obtain ⟨h1, h2, h3⟩ := ih _ _ _ _ _ he hW (by cases hne with | mk => assumption) hM
        obtain ⟨m1, m2, m3⟩ := markS_far hook σ' n o'.isSome
        unfold FailI
        rw [m1, m3]
        exact ⟨h1, h2, h3⟩
    | rule i =>
      simp only [pk] at h
      cases hs : recall σ.seen (i, p) with
      | some o' =>
        rw [hs] at h
        simp only [Option.some.injEq, Prod.mk.injEq] at h
        obtain ⟨rfl, rfl⟩ := h
        refine ⟨hM, fun ho => ?_, fun h => h⟩
        cases o' with
        | none => exact hM _ hs
        | some k => cases ho
      | none =>
        rw [hs] at h
        simp only at h
        cases hgi : g[i]? with
        | none => rw [hgi] at h; cases h
        | some r =>
          rw [hgi] at h
          simp only at h
          cases he : pk g s hook m (.try_ r.2 (firstN g i)) p σ with
          | none => rw [he] at h; cases h
          | some x =>
            obtain ⟨o', σ'⟩ := x
            rw [he] at h
            simp only at h
            split at h
            · cases h
            · simp only [Option.some.injEq, Prod.mk.injEq] at h
              obtain ⟨rfl, rfl⟩ := h
              obtain ⟨h1, h2, h3⟩ := ih _ _ _ _ _ he (hg r (List.mem_of_getElem? hgi)) trivial hM
              refine ⟨fun k hk => ?_, h2, h3⟩
              rcases recall_last hk with h4 | h4
              · exact h1 k h4
              · refine h2 ?_
                cases o' with
                | none => rfl
                | some q => cases h4
    | seq es n =>
      cases es with
      | nil =>
        simp only [pk, Option.some.injEq, Prod.mk.injEq] at h
        obtain ⟨rfl, rfl⟩ := h
        exact ⟨hM, fun ho => (by cases ho), fun h => h⟩
      | cons e es =>
        simp only [pk] at h
        cases he : pk g s hook m (.try_ e n) p σ with
        | none => rw [he] at h; cases h
        | some x =>
          obtain ⟨o', σ'⟩ := x
          rw [he] at h
          obtain ⟨h1, h2, h3⟩ := ih _ _ _ _ _ he (hW e (by simp)) trivial hM
          cases o' with
          | none =>
            simp only [Option.some.injEq, Prod.mk.injEq] at h
            obtain ⟨rfl, rfl⟩ := h
            exact ⟨h1, h2, h3⟩
          | some to =>
            obtain ⟨k1, k2, k3⟩ := ih _ _ _ _ _ h (fun x hx => hW x (by simp [hx])) trivial h1
            exact ⟨k1, k2, fun h => k3 (h3 h)⟩
    | alt es n =>
      cases es with
      | nil =>
        simp only [pk, Option.some.injEq, Prod.mk.injEq] at h
        obtain ⟨rfl, rfl⟩ := h
        exact ⟨hM, fun _ => hN, fun h => h⟩
      | cons e es =>
        simp only [pk] at h
        cases he : pk g s hook m (.try_ e n) p σ with
        | none => rw [he] at h; cases h
        | some x =>
          obtain ⟨o', σ'⟩ := x
          rw [he] at h
          obtain ⟨h1, h2, h3⟩ := ih _ _ _ _ _ he (hW e (by simp)) trivial hM
          cases o' with
          | some to =>
            simp only [Option.some.injEq, Prod.mk.injEq] at h
            obtain ⟨rfl, rfl⟩ := h
            exact ⟨h1, h2, h3⟩
          | none =>
            obtain ⟨k1, k2, k3⟩ := ih _ _ _ _ _ h (fun x hx => hW x (by simp [hx])) (notOne_alt fun _ => h2 rfl) h1
            exact ⟨k1, fun _ => k3 (h2 rfl), fun h => k3 (h3 h)⟩
    | rep e n =>
      simp only [pk] at h
      cases he : pk g s hook m (.try_ e n) p σ with
      | none => rw [he] at h; cases h
      | some x =>
        obtain ⟨o', σ'⟩ := x
        rw [he] at h
        obtain ⟨h1, h2, h3⟩ := ih _ _ _ _ _ he hW trivial hM
        cases o' with
        | none =>
          simp only [Option.some.injEq, Prod.mk.injEq] at h
          obtain ⟨rfl, rfl⟩ := h
          exact ⟨h1, fun ho => (by cases ho), h3⟩
        | some to =>
          obtain ⟨k1, k2, k3⟩ := ih _ _ _ _ _ h hW trivial h1
          exact ⟨k1, k2, fun h => k3 (h3 h)⟩
    | node e n =>
      obtain ⟨k, a, b, c, d, t, ks⟩ := e
      rw [pk_node] at h
      have hW' : NoNot (.mk k a b c d t ks) := hW
      cases hW' with
      | mk _ _ _ _ _ _ _ hk hne hks =>
      split at h
      · simp only [Option.some.injEq, Prod.mk.injEq] at h
        obtain ⟨rfl, rfl⟩ := h
        exact ⟨hM, fun ho => (by cases ho), fun h => h⟩
      split at h
      · split at h
        · simp only [Option.some.injEq, Prod.mk.injEq] at h
          obtain ⟨rfl, rfl⟩ := h
          exact ⟨hM, fun ho => (by cases ho), fun h => h⟩
        · simp only [Option.some.injEq, Prod.mk.injEq] at h
          obtain ⟨rfl, rfl⟩ := h
          exact ⟨fun _ _ => missS_far _ _ _, fun _ => missS_far _ _ _, fun _ => missS_far _ _ _⟩
      split at h
      · split at h
        · simp only [Option.some.injEq, Prod.mk.injEq] at h
          obtain ⟨rfl, rfl⟩ := h
          exact ⟨hM, fun ho => (by cases ho), fun h => h⟩
        · simp only [Option.some.injEq, Prod.mk.injEq] at h
          obtain ⟨rfl, rfl⟩ := h
          exact ⟨fun _ _ => missS_far _ _ _, fun _ => missS_far _ _ _, fun _ => missS_far _ _ _⟩
      split at h
      · exact ih _ _ _ _ _ h trivial trivial hM
      split at h
      · exact ih _ _ _ _ _ h hks trivial hM
      split at h
      · rename_i k6
        exact ih _ _ _ _ _ h hks (notOne_alt fun he => absurd he (hne k6)) hM
      cases ks with
      | nil => cases h
      | cons e es => exact ih _ _ _ _ _ h (hks e (by simp)) hk hM
    | one k e n =>
      simp only [pk] at h
      cases he : pk g s hook m (.try_ e (n + 1)) p σ with
      | none => rw [he] at h; cases h
      | some x =>
        obtain ⟨o', σ'⟩ := x
        rw [he] at h
        obtain ⟨h1, h2, h3⟩ := ih _ _ _ _ _ he hW trivial hM
        cases o' with
        | none =>
          simp only [Option.some.injEq, Prod.mk.injEq] at h
          obtain ⟨rfl, rfl⟩ := h
          exact ⟨h1, fun _ => h2 rfl, h3⟩
        | some to =>
          simp only at h
          split at h
          · simp only [Option.some.injEq, Prod.mk.injEq] at h
            obtain ⟨rfl, rfl⟩ := h
            exact ⟨h1, fun ho => (by cases ho), h3⟩
          split at h
          · rename_i h11
            exact absurd h11 hN
          split at h
          · simp only [Option.some.injEq, Prod.mk.injEq] at h
            obtain ⟨rfl, rfl⟩ := h
            exact ⟨h1, fun ho => (by cases ho), h3⟩
          obtain ⟨k1, k2, k3⟩ := ih _ _ _ _ _ h hW trivial h1
          exact ⟨k1, k2, fun h => k3 (h3 h)⟩
end Go.Proofs.Ytlamphneimpdlaa
