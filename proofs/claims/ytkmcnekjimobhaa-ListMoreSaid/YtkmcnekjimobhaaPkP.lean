/- strings.HasPrefix; how much of a literal stands at a place. -/
import Derived.Test.YtkmcnekjimobhaaPkG
import Derived.Lib.Strings
namespace Go.Proofs.Ytkmcnekjimobhaa
open Go.RowKit Go.Maps

theorem prefix_list (s p : ByteArray) : Lib.hasPrefix s.data.toList p.data.toList = p.data.toList.isPrefixOf s.data.toList := rfl
set_option maxRecDepth 100000 in
theorem hasPrefix0_any (s p : ByteArray) (w : World) : Calls Try.prog 114 #[.string s, .string p] w fun e w' => e = .returned (.bool (p.data.toList.isPrefixOf s.data.toList)) ∧ Below w.heap.size w w' := by
  have HX : Hid ((decide (p.data.toList.length ≤ s.data.toList.length) && (s.data.toList.take p.data.toList.length == p.data.toList)) = p.data.toList.isPrefixOf s.data.toList) := Lib.hasPrefix_of_take _ _
  generalize p.data.toList.isPrefixOf s.data.toList = r at HX
  have HL := Lib.hid (size_list s)
  have HP := Lib.hid (size_list p)
  by_cases h : p.size ≤ s.size
  · have HY : Hid (((s.extract 0 p.size).toList == p.toList) = r) := by
      show _ = _
      rw [← HX.out, Lib.extract_toList, ByteArray.toList_eq, List.drop_zero, HL.out, HP.out, decide_eq_true h, Bool.true_and, Nat.sub_zero]
    clear HX
    go_enter Try.func114, Try.ntmps114
    go_wp2
    go_ret
    exact ⟨ret_bool HY.out, (by repeat (first | exact Below.refl _ _ | assumption | refine Below.drew ?_ | refine below_drewN ?_ _ | refine Below.alloc ?_ (by first | omega | (simp; omega) | simp) _ | refine Below.setCell ?_ (by first | omega | (simp; omega) | simp) _))⟩
  · have HY : Hid (r = false) := by
      show _ = _
      rw [← HX.out, HL.out, HP.out, decide_eq_false h, Bool.false_and]
    clear HX
    go_enter Try.func114, Try.ntmps114
    go_wp2
    go_ret
    exact ⟨ret_bool HY.out.symm, (by repeat (first | exact Below.refl _ _ | assumption | refine Below.drew ?_ | refine below_drewN ?_ _ | refine Below.alloc ?_ (by first | omega | (simp; omega) | simp) _ | refine Below.setCell ?_ (by first | omega | (simp; omega) | simp) _))⟩
set_option maxRecDepth 100000 in
theorem hasPrefix_any (s p : ByteArray) (w : World) : Calls Try.prog 89 #[.string s, .string p] w fun e w' => e = .returned (.bool (p.data.toList.isPrefixOf s.data.toList)) ∧ Below w.heap.size w w' := by
  have hc := hasPrefix0_any s p
  generalize p.data.toList.isPrefixOf s.data.toList = r at hc ⊢
  have HC := Lib.hid hc
  clear hc
  go_enter Try.func89, Try.ntmps89
  go_wp2_with fail
  refine (HC.out _).mono ?_
  rintro e w1 ⟨rfl, hb⟩
  go_wp2
  go_ret
  exact ⟨rfl, hb⟩

/-! how much of a text stands at a place -/
section
variable (s : List UInt8) (p : Nat) (t : List UInt8)
theorem alike_spec : ∀ (f k : Nat), k + f = t.length → (∀ j, j < k → p + j < s.length ∧ bt s (p + j) = bt t j) → litAt s p t = false →
    alike s p t f k < t.length ∧ k ≤ alike s p t f k ∧ p + alike s p t f k ≤ max (p + k) s.length := by
  intro f
  induction f with
  | zero =>
    intro k hk hs hl
    exfalso
    have hk : k = t.length := by omega
    have : litAt s p t = true := by
      unfold litAt
      rw [List.isPrefixOf_iff_prefix, List.prefix_iff_eq_take]
      apply List.ext_getElem?
      intro j
      rw [List.getElem?_take]
      split
      · rename_i hj
        obtain ⟨h1, h2⟩ := hs j (by omega)
        rw [List.getElem?_drop, List.getElem?_eq_getElem h1, List.getElem?_eq_getElem hj]
        unfold bt at h2
        rw [List.getD_eq_getElem?_getD, List.getD_eq_getElem?_getD, List.getElem?_eq_getElem h1, List.getElem?_eq_getElem hj] at h2
        simp only [Option.getD_some] at h2
        rw [UInt8.toNat.inj h2]
      · rw [List.getElem?_eq_none (by omega)]
    rw [this] at hl
    cases hl
  | succ f ih =>
    intro k hk hs hl
    unfold alike
    split
    · rename_i h
      obtain ⟨a, b, c⟩ := ih (k + 1) (by omega) (fun j hj => by
        by_cases hjk : j < k
        · exact hs j hjk
        · obtain rfl : j = k := by omega
          exact h) hl
      exact ⟨a, by omega, by omega⟩
    · exact ⟨by omega, Nat.le_refl _, by omega⟩
theorem matchN_lt (h : litAt s p t = false) (hp : p ≤ s.length) : matchN s p t < t.length ∧ p + matchN s p t ≤ s.length := by
  obtain ⟨a, _, c⟩ := alike_spec s p t t.length 0 (by omega) (fun j h => by omega) h
  exact ⟨a, by unfold matchN; omega⟩
end

/-- nothing goes back -/
theorem pk_ge (g : List Rl) (s : List UInt8) (hook : Bool) : ∀ m j p σ o σ1, pk g s hook m j p σ = some (o, σ1) → ∀ to, o = some to → p ≤ to := by
  intro m
  induction m with
  | zero => intro j p σ o σ1 h; cases h
  | succ m ih =>
    intro j p σ o σ1 h to ht
    cases j with
    | try_ e n =>
      simp only [pk] at h
      cases he : pk g s hook m (.node e n) p σ with
      | none => rw [he] at h; cases h
      | some x =>
        obtain ⟨o', σ'⟩ := x
        rw [he] at h
        simp only [Option.some.injEq, Prod.mk.injEq] at h
        obtain ⟨rfl, rfl⟩ := h
        exact ih _ _ _ _ _ he to ht
    | rule i =>
      simp only [pk] at h
      cases hs : recall σ.seen (i, p) with
      | some o' =>
        rw [hs] at h
        simp only [Option.some.injEq, Prod.mk.injEq] at h
        obtain ⟨rfl, rfl⟩ := h
        cases o' with
        | none => cases ht
        | some k => simp only [Option.map_some, Option.some.injEq] at ht; omega
      | none =>
        rw [hs] at h
        simp only at h
        cases hg : g[i]? with
        | none => rw [hg] at h; cases h
        | some r =>
          rw [hg] at h
          simp only at h
          cases he : pk g s hook m (.try_ r.2 (firstN g i)) p σ with
          | none => rw [he] at h; cases h
          | some x =>
            obtain ⟨o', σ'⟩ := x
            rw [he] at h
            simp only at h
            split at h
            · cases h
            · simp only [Option.some.injEq, Prod.mk.injEq] at h
              obtain ⟨rfl, _⟩ := h
              exact ih _ _ _ _ _ he to ht
    | seq es n =>
      cases es with
      | nil => simp only [pk, Option.some.injEq, Prod.mk.injEq] at h; obtain ⟨rfl, _⟩ := h; injection ht with ht; omega
      | cons e es =>
        simp only [pk] at h
        cases he : pk g s hook m (.try_ e n) p σ with
        | none => rw [he] at h; cases h
        | some x =>
          obtain ⟨o', σ'⟩ := x
          rw [he] at h
          cases o' with
          | none => simp only [Option.some.injEq, Prod.mk.injEq] at h; obtain ⟨rfl, _⟩ := h; cases ht
          | some q => exact Nat.le_trans (ih _ _ _ _ _ he q rfl) (ih _ _ _ _ _ h to ht)
    | alt es n =>
      cases es with
      | nil => simp only [pk, Option.some.injEq, Prod.mk.injEq] at h; obtain ⟨rfl, _⟩ := h; cases ht
      | cons e es =>
        simp only [pk] at h
        cases he : pk g s hook m (.try_ e n) p σ with
        | none => rw [he] at h; cases h
        | some x =>
          obtain ⟨o', σ'⟩ := x
          rw [he] at h
          cases o' with
          | none => exact ih _ _ _ _ _ h to ht
          | some q =>
            simp only [Option.some.injEq, Prod.mk.injEq] at h
            obtain ⟨rfl, _⟩ := h
            exact ih _ _ _ _ _ he to ht
    | rep e n =>
      simp only [pk] at h
      cases he : pk g s hook m (.try_ e n) p σ with
      | none => rw [he] at h; cases h
      | some x =>
        obtain ⟨o', σ'⟩ := x
        rw [he] at h
        cases o' with
        | none => simp only [Option.some.injEq, Prod.mk.injEq] at h; obtain ⟨rfl, _⟩ := h; injection ht with ht; omega
        | some q => exact Nat.le_trans (ih _ _ _ _ _ he q rfl) (ih _ _ _ _ _ h to ht)
    | node e n =>
      obtain ⟨k, a, b, c, d, t, ks⟩ := e
      rw [pk_node] at h
      split at h
      · simp only [Option.some.injEq, Prod.mk.injEq] at h; obtain ⟨rfl, _⟩ := h; injection ht with ht; omega
      split at h
      · split at h
        · simp only [Option.some.injEq, Prod.mk.injEq] at h; obtain ⟨rfl, _⟩ := h; injection ht with ht; omega
        · simp only [Option.some.injEq, Prod.mk.injEq] at h; obtain ⟨rfl, _⟩ := h; cases ht
      split at h
      · split at h
        · simp only [Option.some.injEq, Prod.mk.injEq] at h; obtain ⟨rfl, _⟩ := h; injection ht with ht; omega
        · simp only [Option.some.injEq, Prod.mk.injEq] at h; obtain ⟨rfl, _⟩ := h; cases ht
      split at h
      · exact ih _ _ _ _ _ h to ht
      split at h
      · exact ih _ _ _ _ _ h to ht
      split at h
      · exact ih _ _ _ _ _ h to ht
      split at h
      · cases h
      · exact ih _ _ _ _ _ h to ht
    | one k e n =>
      simp only [pk] at h
      cases he : pk g s hook m (.try_ e (n + 1)) p σ with
      | none => rw [he] at h; cases h
      | some x =>
        obtain ⟨o', σ'⟩ := x
        rw [he] at h
        cases o' with
        | none =>
          simp only [Option.some.injEq, Prod.mk.injEq] at h; obtain ⟨rfl, _⟩ := h
          split at ht
          · cases ht
          · injection ht with ht; omega
        | some q =>
          have hq := ih _ _ _ _ _ he q rfl
          simp only at h
          split at h
          · simp only [Option.some.injEq, Prod.mk.injEq] at h; obtain ⟨rfl, _⟩ := h; injection ht with ht; omega
          split at h
          · simp only [Option.some.injEq, Prod.mk.injEq] at h; obtain ⟨rfl, _⟩ := h; cases ht
          split at h
          · simp only [Option.some.injEq, Prod.mk.injEq] at h; obtain ⟨rfl, _⟩ := h; injection ht with ht; omega
          exact Nat.le_trans hq (ih _ _ _ _ _ h to ht)
end Go.Proofs.Ytkmcnekjimobhaa
