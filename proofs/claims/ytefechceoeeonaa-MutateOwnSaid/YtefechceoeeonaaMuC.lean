/- slices.Clone of expressions. -/
import Derived.Test.YtefechceoeeonaaMuP
import Derived.Test.YtefechceoeeonaaRA
namespace Go.Proofs.Ytefechceoeeonaa
open Go.RowKit Go.Maps

set_option maxRecDepth 100000 in
theorem cloneE_any (A : Option Addr) (n c : Nat) (xs : List Value) (B : Nat) (w : World) (hr : Reads w B 7 A n xs) (h1 : ∀ u ∈ xs, u.oneCell' = true) (hB : B ≤ w.heap.size) (hA : A = none → c = 0) (hn : n ≤ 1759218604390) :
    Calls Try.prog 84 #[.slice A n c] w fun e w' =>
      ∃ V c, e = .returned (.slice V n c) ∧ w'.ownsRow w.heap.size 38 7 (.slice V n c) n xs ∧ Below w.heap.size w w' := by
  have hnone : A = none → n = 0 := fun h => by
    rcases Nat.eq_zero_or_pos n with h0 | h0
    · exact h0
    · obtain ⟨ad, h', _⟩ := hr.lies h0
      rw [h] at h'
      cases h'
  cases A with
  | none =>
    obtain rfl := hnone rfl
    obtain rfl := hA rfl
    have hz : xs = [] := by have := hr.len; exact List.eq_nil_of_length_eq_zero (by omega)
    subst hz
    have he := fun w => Lib.run_eql_slice_nil (P := Try.prog) w 36 38 none 0 0 0 0 Try.underlying36
    go_enter Try.func84, Try.ntmps84
    go_wp2
    go_ret
    exact ⟨none, 0, rfl, ⟨rfl, .inl ⟨rfl, rfl⟩⟩, Below.refl _ _⟩
  | some ad =>
    obtain ⟨i0, hi0, hz0, hz1, hz2⟩ := info_parts expr_info
    have HL := Lib.hid hr.len
    have he := fun w => Lib.run_eql_slice_nil (P := Try.prog) w 36 38 (some ad) n c 0 0 Try.underlying36
    have C1 : Hid ((w.alloc (.cells #[] 38)).ownsRow w.heap.size 38 7 (.slice (some ⟨w.heap.size, 0, none⟩) 0 0) 0 []) :=
      ⟨rfl, .inr ⟨_, _, #[], rfl, Nat.le_refl _, blk_at rfl, by omega, by unfold maxLen; omega, rfl, rfl⟩⟩
    have C3 : Hid (∀ j u, xs[j]? = some u → (w.alloc (.cells #[] 38)).cell? (ad.add j) = some u) := by
      intro j u hu
      have hj := getElem?_lt hu
      rw [HL.out] at hj
      obtain ⟨ad', e, _, hc⟩ := (hr.alloc hB _).lies (by omega)
      injection e with e
      rw [e]
      exact hc j u hu
    clear hA hnone
    go_enter Try.func84, Try.ntmps84
    go_wp2_with (at_builtin; refine wpList_append_own_at _ rfl _ _ _ rfl w.heap.size 38 i0 _ 7 80 Try.underlying36 hi0 hz0 hz1 hz2 rfl (by omega) _ 0 [] rfl C1.out ad n c xs rfl HL.out C3.out h1 (by unfold maxLen; omega) (by omega) (by simp) ?_; intro v' w1 hown1 hgrow hnil hat; obtain ⟨V, c', rfl⟩ := own_form hown1)
    go_ret
    rw [Nat.zero_add] at *
    exact ⟨V, c', rfl, hown1, below_app ((Below.refl _ _).alloc (Nat.le_refl _) _) C1.out hgrow (by simp) (Nat.le_refl _)⟩
end Go.Proofs.Ytefechceoeeonaa
