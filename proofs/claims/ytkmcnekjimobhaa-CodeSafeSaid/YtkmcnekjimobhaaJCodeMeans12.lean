/- strings.HasPrefix; how much of a literal stands at a place. What is missed: plain. -/
import Derived.Test.YtkmcnekjimobhaaJCodeMeans11
import Derived.Lib.Strings
import Derived.Test.YtkmcnekjimobhaaJCodeMeans1
import Derived.Test.YtkmcnekjimobhaaJCodeMeans4
namespace Go.Proofs.Ytkmcnekjimobhaa
open Go.RowKit Go.Maps

theorem prefix_list (s p : ByteArray) : Lib.hasPrefix s.data.toList p.data.toList = p.data.toList.isPrefixOf s.data.toList := rfl
set_option maxRecDepth 100000 in
theorem hasPrefix0_any (s p : ByteArray) (w : World) : Calls Try.prog 114 #[.string s, .string p] w fun e w' => e = .returned (.bool (p.data.toList.isPrefixOf s.data.toList)) ∧ Below w.heap.size w w' := by
  have HX : Hid ((decide (p.data.toList.length ≤ s.data.toList.length) && (s.data.toList.take p.data.toList.length == p.data.toList)) = p.data.toList.isPrefixOf s.data.toList) := Lib.hasPrefix_of_take _ _
  generalize p.data.toList.isPrefixOf s.data.toList = r at HX
  have HL := Lib.hid (size_list s)
  have HP := Lib.hid (size_list p)
  by_cases h : p.size ≤ s.size
  · have HY : Hid (((s.extract 0 p.size).toList == p.toList) = r) := by
      show _ = _
      rw [← HX.out, Lib.extract_toList, ByteArray.toList_eq, List.drop_zero, HL.out, HP.out, decide_eq_true h, Bool.true_and, Nat.sub_zero]
    clear HX
    go_enter Try.func114, Try.ntmps114
    go_wp2
    go_ret
    exact ⟨ret_bool HY.out, (by repeat (first | exact Below.refl _ _ | assumption | refine Below.drew ?_ | refine below_drewN ?_ _ | refine Below.alloc ?_ (by first | omega | (simp; omega) | simp) _ | refine Below.setCell ?_ (by first | omega | (simp; omega) | simp) _))⟩
  · have HY : Hid (r = false) := by
      show _ = _
      rw [← HX.out, HL.out, HP.out, decide_eq_false h, Bool.false_and]
    clear HX
    go_enter Try.func114, Try.ntmps114
    go_wp2
    go_ret
    exact ⟨ret_bool HY.out.symm, (by repeat (first | exact Below.refl _ _ | assumption | refine Below.drew ?_ | refine below_drewN ?_ _ | refine Below.alloc ?_ (by first | omega | (simp; omega) | simp) _ | refine Below.setCell ?_ (by first | omega | (simp; omega) | simp) _))⟩
set_option maxRecDepth 100000 in
theorem hasPrefix_any (s p : ByteArray) (w : World) : Calls Try.prog 89 #[.string s, .string p] w fun e w' => e = .returned (.bool (p.data.toList.isPrefixOf s.data.toList)) ∧ Below w.heap.size w w' := by
  have hc := hasPrefix0_any s p
  generalize p.data.toList.isPrefixOf s.data.toList = r at hc ⊢
  have HC := Lib.hid hc
  clear hc
  go_enter Try.func89, Try.ntmps89
  go_wp2_with fail
  refine (HC.out _).mono ?_
  rintro e w1 ⟨rfl, hb⟩
  go_wp2
  go_ret
  exact ⟨rfl, hb⟩

/-! how much of a text stands at a place -/
section
variable (s : List UInt8) (p : Nat) (t : List UInt8)
theorem alike_spec : ∀ (f k : Nat), k + f = t.length → (∀ j, j < k → p + j < s.length ∧ bt s (p + j) = bt t j) → litAt s p t = false →
    alike s p t f k < t.length ∧ k ≤ alike s p t f k ∧ p + alike s p t f k ≤ max (p + k) s.length := by
  intro f
  induction f with
  | zero =>
    intro k hk hs hl
    exfalso
    have hk : k = t.length := by omega
    have : litAt s p t = true := by
      unfold litAt
      rw [List.isPrefixOf_iff_prefix, List.prefix_iff_eq_take]
      apply List.ext_getElem?
      intro j
      rw [List.getElem?_take]
      split
      · rename_i hj
        obtain ⟨h1, h2⟩ := hs j (by omega)
        rw [List.getElem?_drop, List.getElem?_eq_getElem h1, List.getElem?_eq_getElem hj]
        unfold bt at h2
        rw [List.getD_eq_getElem?_getD, List.getD_eq_getElem?_getD, List.getElem?_eq_getElem h1, List.getElem?_eq_getElem hj] at h2
        simp only [Option.getD_some] at h2
        rw [UInt8.toNat.inj h2]
      · rw [List.getElem?_eq_none (by omega)]
    rw [this] at hl
    cases hl
  | succ f ih =>
    intro k hk hs hl
    unfold alike
    split
    · rename_i h
      obtain ⟨a, b, c⟩ := ih (k + 1) (by omega) (fun j hj => by
        by_cases hjk : j < k
        · exact hs j hjk
        · obtain rfl : j = k := by omega
          exact h) hl
      exact ⟨a, by omega, by omega⟩
    · exact ⟨by omega, Nat.le_refl _, by omega⟩
theorem matchN_lt (h : litAt s p t = false) (hp : p ≤ s.length) : matchN s p t < t.length ∧ p + matchN s p t ≤ s.length := by
  obtain ⟨a, _, c⟩ := alike_spec s p t t.length 0 (by omega) (fun j h => by omega) h
  exact ⟨a, by unfold matchN; omega⟩
end

/-- nothing goes back -/
theorem pk_ge (g : List Rl) (s : List UInt8) (hook : Bool) : ∀ m j p σ o σ1, pk g s hook m j p σ = some (o, σ1) → ∀ to, o = some to → p ≤ to := by
  intro m
  induction m with
  | zero => intro j p σ o σ1 h; cases h
  | succ m ih =>
    intro j p σ o σ1 h to ht
    cases j with
    | try_ e n =>
      simp only [pk] at h
      cases he : pk g s hook m (.node e n) p σ with
      | none => rw [he] at h; cases h
      | some x =>
        obtain ⟨o', σ'⟩ := x
        rw [he] at h
        simp only [Option.some.injEq, Prod.mk.injEq] at h
        obtain ⟨rfl, rfl⟩ := h
        exact ih _ _ _ _ _ he to ht
    | rule i =>
      simp only [pk] at h
      cases hs : recall σ.seen (i, p) with
      | some o' =>
        rw [hs] at h
        simp only [Option.some.injEq, Prod.mk.injEq] at h
        obtain ⟨rfl, rfl⟩ := h
        cases o' with
        | none => cases ht
        | some k => simp only [Option.map_some, Option.some.injEq] at ht; omega
      | none =>
        rw [hs] at h
        simp only at h
        cases hg : g[i]? with
        | none => rw [hg] at h; cases h
        | some r =>
          rw [hg] at h
          simp only at h
          cases he : pk g s hook m (.try_ r.2 (firstN g i)) p σ with
          | none => rw [he] at h; cases h
          | some x =>
            obtain ⟨o', σ'⟩ := x
            rw [he] at h
            simp only at h
            split at h
            · cases h
            · simp only [Option.some.injEq, Prod.mk.injEq] at h
              obtain ⟨rfl, _⟩ := h
              exact ih _ _ _ _ _ he to ht
    | seq es n =>
      cases es with
      | nil => simp only [pk, Option.some.injEq, Prod.mk.injEq] at h; obtain ⟨rfl, _⟩ := h; injection ht with ht; omega
      | cons e es =>
        simp only [pk] at h
        cases he : pk g s hook m (.try_ e n) p σ with
        | none => rw [he] at h; cases h
        | some x =>
          obtain ⟨o', σ'⟩ := x
          rw [he] at h
          cases o' with
          | none => simp only [Option.some.injEq, Prod.mk.injEq] at h; obtain ⟨rfl, _⟩ := h; cases ht
          | some q => exact Nat.le_trans (ih _ _ _ _ _ he q rfl) (ih _ _ _ _ _ h to ht)
    | alt es n =>
      cases es with
      | nil => simp only [pk, Option.some.injEq, Prod.mk.injEq] at h; obtain ⟨rfl, _⟩ := h; cases ht
      | cons e es =>
        simp only [pk] at h
        cases he : pk g s hook m (.try_ e n) p σ with
        | none => rw [he] at h; cases h
        | some x =>
          obtain ⟨o', σ'⟩ := x
          rw [he] at h
          cases o' with
          | none => exact ih _ _ _ _ _ h to ht
          | some q =>
            simp only [Option.some.injEq, Prod.mk.injEq] at h
            obtain ⟨rfl, _⟩ := h
            exact ih _ _ _ _ _ he to ht
    | rep e n =>
      simp only [pk] at h
      cases he : pk g s hook m (.try_ e n) p σ with
      | none => rw [he] at h; cases h
      | some x =>
        obtain ⟨o', σ'⟩ := x
        rw [he] at h
        cases o' with
        | none => simp only [Option.some.injEq, Prod.mk.injEq] at h; obtain ⟨rfl, _⟩ := h; injection ht with ht; omega
        | some q => exact Nat.le_trans (ih _ _ _ _ _ he q rfl) (ih _ _ _ _ _ h to ht)
    | node e n =>
      obtain ⟨k, a, b, c, d, t, ks⟩ := e
      rw [pk_node] at h
      split at h
      · simp only [Option.some.injEq, Prod.mk.injEq] at h; obtain ⟨rfl, _⟩ := h; injection ht with ht; omega
      split at h
      · split at h
        · simp only [Option.some.injEq, Prod.mk.injEq] at h; obtain ⟨rfl, _⟩ := h; injection ht with ht; omega
        · simp only [Option.some.injEq, Prod.mk.injEq] at h; obtain ⟨rfl, _⟩ := h; cases ht
      split at h
      · split at h
        · simp only [Option.some.injEq, Prod.mk.injEq] at h; obtain ⟨rfl, _⟩ := h; injection ht with ht; omega
        · simp only [Option.some.injEq, Prod.mk.injEq] at h; obtain ⟨rfl, _⟩ := h; cases ht
      split at h
      · exact ih _ _ _ _ _ h to ht
      split at h
      · exact ih _ _ _ _ _ h to ht
      split at h
      · exact ih _ _ _ _ _ h to ht
      split at h
      · cases h
      · exact ih _ _ _ _ _ h to ht
    | one k e n =>
      simp only [pk] at h
      cases he : pk g s hook m (.try_ e (n + 1)) p σ with
      | none => rw [he] at h; cases h
      | some x =>
        obtain ⟨o', σ'⟩ := x
        rw [he] at h
        cases o' with
        | none =>
          simp only [Option.some.injEq, Prod.mk.injEq] at h; obtain ⟨rfl, _⟩ := h
          split at ht
          · cases ht
          · injection ht with ht; omega
        | some q =>
          have hq := ih _ _ _ _ _ he q rfl
          simp only at h
          split at h
          · simp only [Option.some.injEq, Prod.mk.injEq] at h; obtain ⟨rfl, _⟩ := h; injection ht with ht; omega
          split at h
          · simp only [Option.some.injEq, Prod.mk.injEq] at h; obtain ⟨rfl, _⟩ := h; cases ht
          split at h
          · simp only [Option.some.injEq, Prod.mk.injEq] at h; obtain ⟨rfl, _⟩ := h; injection ht with ht; omega
          exact Nat.le_trans hq (ih _ _ _ _ _ h to ht)
end Go.Proofs.Ytkmcnekjimobhaa
namespace Go.Proofs.Ytkmcnekjimobhaa
open Go.RowKit

def hasS (s : S4) (x : Nat) : Bool := hasE s.a s.b s.c s.d x
structure U4 (s : S4) : Prop where
  a : U64 s.a
  b : U64 s.b
  c : U64 s.c
  d : U64 s.d
theorem or_toNat {x y : Int} (hx : U64 x) (hy : U64 y) : (orU x y).toNat = x.toNat ||| y.toNat := by
  obtain ⟨u, rfl⟩ := hx.nat; obtain ⟨v, rfl⟩ := hy.nat
  rw [orU_bv]
  simp
theorem orS_has {s t : S4} (hs : U4 s) (ht : U4 t) {x : Nat} (hx : x < 256) : hasS (S4.map2 orU s t) x = (hasS s x || hasS t x) := by
  unfold hasS hasE hasN S4.map2
  simp only
  rw [or_toNat hs.a ht.a, or_toNat hs.b ht.b, or_toNat hs.c ht.c, or_toNat hs.d ht.d]
  rcases (by omega : x / 64 = 0 ∨ x / 64 = 1 ∨ x / 64 = 2 ∨ x / 64 = 3) with h | h | h | h <;> rw [h] <;> simp [Nat.testBit_or]
theorem orS_u {s t : S4} (hs : U4 s) (ht : U4 t) : U4 (S4.map2 orU s t) := ⟨hs.a.or ht.a, hs.b.or ht.b, hs.c.or ht.c, hs.d.or ht.d⟩
theorem noS_u : U4 noS := ⟨by simp [noS, U64], by simp [noS, U64], by simp [noS, U64], by simp [noS, U64]⟩
theorem noS_has (x : Nat) : hasS noS x = false := by
  unfold hasS hasE hasN noS
  rcases (by omega : x / 64 = 0 ∨ x / 64 = 1 ∨ x / 64 = 2 ∨ x / 64 = 3 ∨ 4 ≤ x / 64) with h | h | h | h | h
  · rw [h]; simp
  · rw [h]; simp
  · rw [h]; simp
  · rw [h]; simp
  · obtain ⟨m, hm⟩ : ∃ m, x / 64 = m + 4 := ⟨x / 64 - 4, by omega⟩
    rw [hm]; simp
theorem rangeL_in (lo : Nat) : ∀ n, lo + n ≤ 256 → ∀ j, j < 256 → hasN (rangeL lo n) j = decide (lo ≤ j ∧ j < lo + n)
  | 0, _, j, _ => by
    have : ¬ (lo ≤ j ∧ j < lo + 0) := by omega
    rw [decide_eq_false this]
    unfold hasN rangeL
    rcases (by omega : j / 64 = 0 ∨ j / 64 = 1 ∨ j / 64 = 2 ∨ 3 ≤ j / 64) with h | h | h | h
    · rw [h]; simp
    · rw [h]; simp
    · rw [h]; simp
    · obtain ⟨m, hm⟩ : ∃ m, j / 64 = m + 3 := ⟨j / 64 - 3, by omega⟩
      rw [hm]
      cases m <;> simp
  | n + 1, h, j, hj => by
    have ih := rangeL_in lo n (by omega) j hj
    have hl := rangeL_len lo n
    unfold hasN at ih ⊢
    rw [rangeL, List.getD_eq_getElem?_getD, List.getElem?_set]
    split
    · rename_i he
      rw [if_pos (by omega)]
      simp only [Option.getD_some]
      rw [Nat.testBit_or, he, ih, Nat.testBit_two_pow]
      have e1 : ((lo + n) % 64 = j % 64) ↔ lo + n = j := by omega
      rw [Bool.eq_iff_iff]
      simp only [Bool.or_eq_true, decide_eq_true_iff, e1]
      omega
    · rename_i he
      rw [← List.getD_eq_getElem?_getD, ih, Bool.eq_iff_iff]
      simp only [decide_eq_true_iff]
      constructor
      · intro h1; omega
      · intro h1
        refine ⟨h1.1, ?_⟩
        rcases Nat.eq_or_lt_of_le (show j + 1 ≤ lo + (n + 1) from h1.2) with e | e
        · exfalso
          apply he
          rw [show lo + n = j from by omega]
        · omega
theorem oneS_has {c x : Nat} (hc : c < 256) (hx : x < 256) : hasS (oneS c) x = decide (x = c) := by
  have h := rangeL_in c 1 (by omega) x hx
  obtain ⟨x0, x1, x2, x3, he⟩ := four_of (rangeL_len c 1)
  unfold hasS hasE oneS
  rw [he] at h ⊢
  simp only [List.getD_cons_zero, List.getD_cons_succ, Int.toNat_natCast]
  rw [h, Bool.eq_iff_iff]
  simp only [decide_eq_true_iff]
  omega
theorem nat_u {n : Nat} (h : n < 18446744073709551616) : U64 (n : Int) := ⟨by omega, by omega⟩
theorem oneS_u (c : Nat) : U4 (oneS c) := ⟨nat_u (rangeL_lt c 1 0), nat_u (rangeL_lt c 1 1), nat_u (rangeL_lt c 1 2), nat_u (rangeL_lt c 1 3)⟩
theorem alike_stop (s : List UInt8) (p : Nat) (t : List UInt8) : ∀ (f k : Nat), k + f = t.length → (∀ j, j < k → p + j < s.length ∧ bt s (p + j) = bt t j) → litAt s p t = false → p + alike s p t f k < s.length → bt s (p + alike s p t f k) ≠ bt t (alike s p t f k) := by
  intro f
  induction f with
  | zero =>
    intro k hk hs hl
    exfalso
    have := (alike_spec s p t 0 k hk hs hl).1
    unfold alike at this
    omega
  | succ f ih =>
    intro k hk hs hl
    unfold alike
    split
    · rename_i h
      exact ih (k + 1) (by omega) (fun j hj => by
        by_cases hjk : j < k
        · exact hs j hjk
        · obtain rfl : j = k := by omega
          exact h) hl
    · rename_i h
      intro h1 h2
      exact h ⟨h1, h2⟩

/-- what was wanted at the farthest place is not there -/
def MissI (s : List UInt8) (σ : PS) : Prop := U4 σ.want ∧ ((σ.far = -1 ∧ σ.want = noS) ∨ ∃ q : Nat, σ.far = q ∧ q ≤ s.length ∧ (q < s.length → hasS σ.want (bt s q) = false))
theorem missS_I {s : List UInt8} {σ : PS} {p : Nat} {w : S4} (h : MissI s σ) (hw : U4 w) (hp : p ≤ s.length) (hn : p < s.length → hasS w (bt s p) = false) : MissI s (missS σ p w) := by
  unfold missS
  split
  · refine ⟨orS_u noS_u hw, .inr ⟨p, rfl, hp, fun hlt => ?_⟩⟩
    simp only
    rw [orS_has noS_u hw (bt_lt _ _), noS_has, hn hlt]
    rfl
  · rename_i h1
    split
    · rename_i h2
      refine ⟨orS_u h.1 hw, ?_⟩
      rcases h.2 with ⟨h3, _⟩ | ⟨q, h3, h4, h5⟩
      · omega
      · obtain rfl : q = p := by omega
        refine .inr ⟨q, h3, hp, fun hlt => ?_⟩
        simp only
        rw [orS_has h.1 hw (bt_lt _ _), h5 hlt, hn hlt]
        rfl
    · exact h
theorem missS_far (σ : PS) (p : Nat) (w : S4) : 0 ≤ (missS σ p w).far := by
  unfold missS
  split
  · simp only; omega
  · rename_i h1
    split
    · simp only; omega
    · omega

/-- no node of kind 11 -/
inductive NoNot : Ex → Prop
  | mk (k a b c d : Int) (t : ByteArray) (ks : List Ex) : k ≠ 11 → (k = 6 → ks ≠ []) → (∀ e ∈ ks, NoNot e) → NoNot (.mk k a b c d t ks)
/-- each expression of a job -/
def PJob.all (P : Ex → Prop) : PJob → Prop
  | .node e _ => P e
  | .try_ e _ => P e
  | .rule _ => True
  | .seq es _ => ∀ e ∈ es, P e
  | .alt es _ => ∀ e ∈ es, P e
  | .rep e _ => P e
  | .one _ e _ => P e
def PJob.notOne (σ : PS) : PJob → Prop
  | .one k _ _ => k ≠ 11
  | .node (.mk k _ _ _ _ _ _) _ => k ≠ 11
  | .alt [] _ => 0 ≤ σ.far
  | _ => True
theorem notOne_alt {σ : PS} {es : List Ex} {n : Nat} (h : es = [] → 0 ≤ σ.far) : PJob.notOne σ (.alt es n) := by
  cases es with
  | nil => exact h rfl
  | cons e es => trivial
/-- something that failed has missed something -/
def FailI (σ : PS) : Prop := ∀ k, recall σ.seen k = some none → 0 ≤ σ.far
theorem markS_far (hook : Bool) (σ : PS) (n : Nat) (ok : Bool) : (markS hook σ n ok).far = σ.far ∧ (markS hook σ n ok).want = σ.want ∧ (markS hook σ n ok).seen = σ.seen := by
  unfold markS
  split <;> exact ⟨rfl, rfl, rfl⟩
theorem recall_last {l : List ((Nat × Nat) × Option Nat)} {k k' : Nat × Nat} {v : Option Nat} {x : Option Nat} (h : recall (l ++ [(k, v)]) k' = some x) : recall l k' = some x ∨ x = v := by
  rw [recall_app] at h
  split at h
  · exact .inl h
  · split at h
    · injection h with h; exact .inr h.symm
    · cases h

theorem pk_miss {g : List Rl} {s : List UInt8} {hook : Bool} (hg : ∀ r ∈ g, WfE r.2) : ∀ m j p σ o σ1, pk g s hook m j p σ = some (o, σ1) → p ≤ s.length → Bound s.length σ → PJob.all WfE j → MissI s σ → MissI s σ1 := by
  intro m
  induction m with
  | zero => intro j p σ o σ1 h; cases h
  | succ m ih =>
    intro j p σ o σ1 h hp hB hW hM
    cases j with
    | try_ e n =>
      simp only [pk] at h
      cases he : pk g s hook m (.node e n) p σ with
      | none => rw [he] at h; cases h
      | some x =>
        obtain ⟨o', σ'⟩ := x
        rw [he] at h
        simp only [Option.some.injEq, Prod.mk.injEq] at h
        obtain ⟨rfl, rfl⟩ := h
        have h1 := ih _ _ _ _ _ he hp hB hW hM
        obtain ⟨m1, m2, m3⟩ := markS_far hook σ' n o'.isSome
        unfold MissI
        rw [m1, m2]
        exact h1
    | rule i =>
      simp only [pk] at h
      cases hs : recall σ.seen (i, p) with
      | some o' =>
        rw [hs] at h
        simp only [Option.some.injEq, Prod.mk.injEq] at h
        obtain ⟨rfl, rfl⟩ := h
        exact hM
      | none =>
        rw [hs] at h
        simp only at h
        cases hgi : g[i]? with
        | none => rw [hgi] at h; cases h
        | some r =>
          rw [hgi] at h
          simp only at h
          cases he : pk g s hook m (.try_ r.2 (firstN g i)) p σ with
          | none => rw [he] at h; cases h
          | some x =>
            obtain ⟨o', σ'⟩ := x
            rw [he] at h
            simp only at h
            split at h
            · cases h
            · simp only [Option.some.injEq, Prod.mk.injEq] at h
              obtain ⟨rfl, rfl⟩ := h
              have h1 : MissI s σ' := ih _ _ _ _ _ he hp hB (hg r (List.mem_of_getElem? hgi)) hM
              exact h1
    | seq es n =>
      cases es with
      | nil =>
        simp only [pk, Option.some.injEq, Prod.mk.injEq] at h
        obtain ⟨rfl, rfl⟩ := h
        exact hM
      | cons e es =>
        simp only [pk] at h
        cases he : pk g s hook m (.try_ e n) p σ with
        | none => rw [he] at h; cases h
        | some x =>
          obtain ⟨o', σ'⟩ := x
          rw [he] at h
          have h1 := ih _ _ _ _ _ he hp hB (hW e (by simp)) hM
          obtain ⟨b1, b2⟩ := pk_bound _ _ _ _ _ _ _ _ _ he hp hB
          cases o' with
          | none =>
            simp only [Option.some.injEq, Prod.mk.injEq] at h
            obtain ⟨rfl, rfl⟩ := h
            exact h1
          | some to => exact ih _ _ _ _ _ h (b1 to rfl) b2 (fun x hx => hW x (by simp [hx])) h1
    | alt es n =>
      cases es with
      | nil =>
        simp only [pk, Option.some.injEq, Prod.mk.injEq] at h
        obtain ⟨rfl, rfl⟩ := h
        exact hM
      | cons e es =>
        simp only [pk] at h
        cases he : pk g s hook m (.try_ e n) p σ with
        | none => rw [he] at h; cases h
        | some x =>
          obtain ⟨o', σ'⟩ := x
          rw [he] at h
          have h1 := ih _ _ _ _ _ he hp hB (hW e (by simp)) hM
          obtain ⟨b1, b2⟩ := pk_bound _ _ _ _ _ _ _ _ _ he hp hB
          cases o' with
          | some to =>
            simp only [Option.some.injEq, Prod.mk.injEq] at h
            obtain ⟨rfl, rfl⟩ := h
            exact h1
          | none => exact ih _ _ _ _ _ h hp b2 (fun x hx => hW x (by simp [hx])) h1
    | rep e n =>
      simp only [pk] at h
      cases he : pk g s hook m (.try_ e n) p σ with
      | none => rw [he] at h; cases h
      | some x =>
        obtain ⟨o', σ'⟩ := x
        rw [he] at h
        have h1 := ih _ _ _ _ _ he hp hB hW hM
        obtain ⟨b1, b2⟩ := pk_bound _ _ _ _ _ _ _ _ _ he hp hB
        cases o' with
        | none =>
          simp only [Option.some.injEq, Prod.mk.injEq] at h
          obtain ⟨rfl, rfl⟩ := h
          exact h1
        | some to => exact ih _ _ _ _ _ h (b1 to rfl) b2 hW h1
    | node e n =>
      obtain ⟨k, a, b, c, d, t, ks⟩ := e
      rw [pk_node] at h
      have hW' : WfE (.mk k a b c d t ks) := hW
      cases hW' with
      | mk _ _ _ _ _ _ _ hk ua ub uc ud hks =>
      split at h
      · simp only [Option.some.injEq, Prod.mk.injEq] at h
        obtain ⟨rfl, rfl⟩ := h
        exact hM
      split at h
      · split at h
        · simp only [Option.some.injEq, Prod.mk.injEq] at h
          obtain ⟨rfl, rfl⟩ := h
          exact hM
        · rename_i hno
          simp only [Option.some.injEq, Prod.mk.injEq] at h
          obtain ⟨rfl, rfl⟩ := h
          refine missS_I hM ⟨ua, ub, uc, ud⟩ hp fun hlt => ?_
          cases hb : hasE a b c d (bt s p) with
          | true => exact absurd ⟨hlt, hb⟩ hno
          | false => exact hb
      split at h
      · split at h
        · simp only [Option.some.injEq, Prod.mk.injEq] at h
          obtain ⟨rfl, rfl⟩ := h
          exact hM
        · rename_i hno
          have hno' : litAt s p t.data.toList = false := by
            cases hb : litAt s p t.data.toList with
            | true => exact absurd hb hno
            | false => rfl
          simp only [Option.some.injEq, Prod.mk.injEq] at h
          obtain ⟨rfl, rfl⟩ := h
          refine missS_I hM (oneS_u _) (matchN_lt s p t.data.toList hno' hp).2 fun hlt => ?_
          rw [oneS_has (bt_lt _ _) (bt_lt _ _), decide_eq_false]
          exact alike_stop s p t.data.toList _ 0 (by omega) (fun j hj => by omega) hno' hlt
      split at h
      · exact ih _ _ _ _ _ h hp hB trivial hM
      split at h
      · exact ih _ _ _ _ _ h hp hB hks hM
      split at h
      · exact ih _ _ _ _ _ h hp hB hks hM
      cases ks with
      | nil => cases h
      | cons e es => exact ih _ _ _ _ _ h hp hB (hks e (by simp)) hM
    | one k e n =>
      simp only [pk] at h
      cases he : pk g s hook m (.try_ e (n + 1)) p σ with
      | none => rw [he] at h; cases h
      | some x =>
        obtain ⟨o', σ'⟩ := x
        rw [he] at h
        have h1 := ih _ _ _ _ _ he hp hB hW hM
        obtain ⟨b1, b2⟩ := pk_bound _ _ _ _ _ _ _ _ _ he hp hB
        cases o' with
        | none =>
          simp only [Option.some.injEq, Prod.mk.injEq] at h
          obtain ⟨rfl, rfl⟩ := h
          exact h1
        | some to =>
          simp only at h
          split at h
          · simp only [Option.some.injEq, Prod.mk.injEq] at h
            obtain ⟨rfl, rfl⟩ := h
            exact h1
          split at h
          · simp only [Option.some.injEq, Prod.mk.injEq] at h
            obtain ⟨rfl, rfl⟩ := h
            exact h1
          split at h
          · simp only [Option.some.injEq, Prod.mk.injEq] at h
            obtain ⟨rfl, rfl⟩ := h
            exact h1
          exact ih _ _ _ _ _ h (b1 to rfl) b2 hW h1

/-- where nothing is a not, what fails has missed something -/
theorem pk_fail {g : List Rl} {s : List UInt8} {hook : Bool} (hg : ∀ r ∈ g, NoNot r.2) : ∀ m j p σ o σ1, pk g s hook m j p σ = some (o, σ1) → PJob.all NoNot j → PJob.notOne σ j → FailI σ → FailI σ1 ∧ (o = none → 0 ≤ σ1.far) ∧ (0 ≤ σ.far → 0 ≤ σ1.far) := by
  intro m
  induction m with
  | zero => intro j p σ o σ1 h; cases h
  | succ m ih =>
    intro j p σ o σ1 h hW hN hM
    cases j with
    | try_ e n =>
      simp only [pk] at h
      cases he : pk g s hook m (.node e n) p σ with
      | none => rw [he] at h; cases h
      | some x =>
        obtain ⟨o', σ'⟩ := x
        rw [he] at h
        simp only [Option.some.injEq, Prod.mk.injEq] at h
        obtain ⟨rfl, rfl⟩ := h
        have hne : NoNot e := hW
        obtain ⟨h1, h2, h3⟩ := ih _ _ _ _ _ he hW (by cases hne with | mk => assumption) hM
        obtain ⟨m1, m2, m3⟩ := markS_far hook σ' n o'.isSome
        unfold FailI
        rw [m1, m3]
        exact ⟨h1, h2, h3⟩
    | rule i =>
      simp only [pk] at h
      cases hs : recall σ.seen (i, p) with
      | some o' =>
        rw [hs] at h
        simp only [Option.some.injEq, Prod.mk.injEq] at h
        obtain ⟨rfl, rfl⟩ := h
        refine ⟨hM, fun ho => ?_, fun h => h⟩
        cases o' with
        | none => exact hM _ hs
        | some k => cases ho
      | none =>
        rw [hs] at h
        simp only at h
        cases hgi : g[i]? with
        | none => rw [hgi] at h; cases h
        | some r =>
          rw [hgi] at h
          simp only at h
          cases he : pk g s hook m (.try_ r.2 (firstN g i)) p σ with
          | none => rw [he] at h; cases h
          | some x =>
            obtain ⟨o', σ'⟩ := x
            rw [he] at h
            simp only at h
            split at h
            · cases h
            · simp only [Option.some.injEq, Prod.mk.injEq] at h
              obtain ⟨rfl, rfl⟩ := h
              obtain ⟨h1, h2, h3⟩ := ih _ _ _ _ _ he (hg r (List.mem_of_getElem? hgi)) trivial hM
              refine ⟨fun k hk => ?_, h2, h3⟩
              rcases recall_last hk with h4 | h4
              · exact h1 k h4
              · refine h2 ?_
                cases o' with
                | none => rfl
                | some q => cases h4
    | seq es n =>
      cases es with
      | nil =>
        simp only [pk, Option.some.injEq, Prod.mk.injEq] at h
        obtain ⟨rfl, rfl⟩ := h
        exact ⟨hM, fun ho => (by cases ho), fun h => h⟩
      | cons e es =>
        simp only [pk] at h
        cases he : pk g s hook m (.try_ e n) p σ with
        | none => rw [he] at h; cases h
        | some x =>
          obtain ⟨o', σ'⟩ := x
          rw [he] at h
          obtain ⟨h1, h2, h3⟩ := ih _ _ _ _ _ he (hW e (by simp)) trivial hM
          cases o' with
          | none =>
            simp only [Option.some.injEq, Prod.mk.injEq] at h
            obtain ⟨rfl, rfl⟩ := h
            exact ⟨h1, h2, h3⟩
          | some to =>
            obtain ⟨k1, k2, k3⟩ := ih _ _ _ _ _ h (fun x hx => hW x (by simp [hx])) trivial h1
            exact ⟨k1, k2, fun h => k3 (h3 h)⟩
    | alt es n =>
      cases es with
      | nil =>
        simp only [pk, Option.some.injEq, Prod.mk.injEq] at h
        obtain ⟨rfl, rfl⟩ := h
        exact ⟨hM, fun _ => hN, fun h => h⟩
      | cons e es =>
        simp only [pk] at h
        cases he : pk g s hook m (.try_ e n) p σ with
        | none => rw [he] at h; cases h
        | some x =>
          obtain ⟨o', σ'⟩ := x
          rw [he] at h
          obtain ⟨h1, h2, h3⟩ := ih _ _ _ _ _ he (hW e (by simp)) trivial hM
          cases o' with
          | some to =>
            simp only [Option.some.injEq, Prod.mk.injEq] at h
            obtain ⟨rfl, rfl⟩ := h
            exact ⟨h1, h2, h3⟩
          | none =>
            obtain ⟨k1, k2, k3⟩ := ih _ _ _ _ _ h (fun x hx => hW x (by simp [hx])) (notOne_alt fun _ => h2 rfl) h1
            exact ⟨k1, fun _ => k3 (h2 rfl), fun h => k3 (h3 h)⟩
    | rep e n =>
      simp only [pk] at h
      cases he : pk g s hook m (.try_ e n) p σ with
      | none => rw [he] at h; cases h
      | some x =>
        obtain ⟨o', σ'⟩ := x
        rw [he] at h
        obtain ⟨h1, h2, h3⟩ := ih _ _ _ _ _ he hW trivial hM
        cases o' with
        | none =>
          simp only [Option.some.injEq, Prod.mk.injEq] at h
          obtain ⟨rfl, rfl⟩ := h
          exact ⟨h1, fun ho => (by cases ho), h3⟩
        | some to =>
          obtain ⟨k1, k2, k3⟩ := ih _ _ _ _ _ h hW trivial h1
          exact ⟨k1, k2, fun h => k3 (h3 h)⟩
    | node e n =>
      obtain ⟨k, a, b, c, d, t, ks⟩ := e
      rw [pk_node] at h
      have hW' : NoNot (.mk k a b c d t ks) := hW
      cases hW' with
      | mk _ _ _ _ _ _ _ hk hne hks =>
      split at h
      · simp only [Option.some.injEq, Prod.mk.injEq] at h
        obtain ⟨rfl, rfl⟩ := h
        exact ⟨hM, fun ho => (by cases ho), fun h => h⟩
      split at h
      · split at h
        · simp only [Option.some.injEq, Prod.mk.injEq] at h
          obtain ⟨rfl, rfl⟩ := h
          exact ⟨hM, fun ho => (by cases ho), fun h => h⟩
        · simp only [Option.some.injEq, Prod.mk.injEq] at h
          obtain ⟨rfl, rfl⟩ := h
          exact ⟨fun _ _ => missS_far _ _ _, fun _ => missS_far _ _ _, fun _ => missS_far _ _ _⟩
      split at h
      · split at h
        · simp only [Option.some.injEq, Prod.mk.injEq] at h
          obtain ⟨rfl, rfl⟩ := h
          exact ⟨hM, fun ho => (by cases ho), fun h => h⟩
        · simp only [Option.some.injEq, Prod.mk.injEq] at h
          obtain ⟨rfl, rfl⟩ := h
          exact ⟨fun _ _ => missS_far _ _ _, fun _ => missS_far _ _ _, fun _ => missS_far _ _ _⟩
      split at h
      · exact ih _ _ _ _ _ h trivial trivial hM
      split at h
      · exact ih _ _ _ _ _ h hks trivial hM
      split at h
      · rename_i k6
        exact ih _ _ _ _ _ h hks (notOne_alt fun he => absurd he (hne k6)) hM
      cases ks with
      | nil => cases h
      | cons e es => exact ih _ _ _ _ _ h (hks e (by simp)) hk hM
    | one k e n =>
      simp only [pk] at h
      cases he : pk g s hook m (.try_ e (n + 1)) p σ with
      | none => rw [he] at h; cases h
      | some x =>
        obtain ⟨o', σ'⟩ := x
        rw [he] at h
        obtain ⟨h1, h2, h3⟩ := ih _ _ _ _ _ he hW trivial hM
        cases o' with
        | none =>
          simp only [Option.some.injEq, Prod.mk.injEq] at h
          obtain ⟨rfl, rfl⟩ := h
          exact ⟨h1, fun _ => h2 rfl, h3⟩
        | some to =>
          simp only at h
          split at h
          · simp only [Option.some.injEq, Prod.mk.injEq] at h
            obtain ⟨rfl, rfl⟩ := h
            exact ⟨h1, fun ho => (by cases ho), h3⟩
          split at h
          · rename_i h11
            exact absurd h11 hN
          split at h
          · simp only [Option.some.injEq, Prod.mk.injEq] at h
            obtain ⟨rfl, rfl⟩ := h
            exact ⟨h1, fun ho => (by cases ho), h3⟩
          obtain ⟨k1, k2, k3⟩ := ih _ _ _ _ _ h hW trivial h1
          exact ⟨k1, k2, fun h => k3 (h3 h)⟩
end Go.Proofs.Ytkmcnekjimobhaa
