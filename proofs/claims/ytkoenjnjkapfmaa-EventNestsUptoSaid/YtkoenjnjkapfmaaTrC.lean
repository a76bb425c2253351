/- slices.Clone of events. -/
import Derived.Test.YtkoenjnjkapfmaaTr5
import Derived.WalkSpells
namespace Go.Proofs.Ytkoenjnjkapfmaa
open Go.RowKit

theorem cloneE_any (A : Option Addr) (n c : Nat) (l : List Ev) (B : Nat) (w : World) (hr : Reads w B 3 A n (evCells l)) (hB : B ≤ w.heap.size) (hA : A = none → c = 0) (hn : n ≤ 4194304) :
    Calls Try.prog 32 #[.slice A n c] w fun e w' =>
      ∃ V c, e = .returned (.slice V n c) ∧ w'.ownsRow w.heap.size 49 3 (.slice V n c) n (evCells l) ∧ Below w.heap.size w w' := by
  have hnone : A = none → n = 0 := fun h => by
    rcases Nat.eq_zero_or_pos n with h0 | h0
    · exact h0
    · obtain ⟨ad, h', _⟩ := hr.lies h0
      rw [h] at h'
      cases h'
  cases A with
  | none =>
    obtain rfl := hnone rfl
    obtain rfl := hA rfl
    have hz : l = [] := by have := hr.ev_len; exact List.eq_nil_of_length_eq_zero this
    subst hz
    have he := fun w => Lib.run_eql_slice_nil (P := Try.prog) w 41 49 none 0 0 0 0 Try.underlying41
    go_enter Try.func32, Try.ntmps32
    go_wp2
    go_ret
    exact ⟨none, 0, rfl, ⟨rfl, .inl ⟨rfl, rfl⟩⟩, Below.refl _ _⟩
  | some ad =>
    obtain ⟨i0, hi0, hz0, hz1, hz2⟩ := info_parts ev_info
    have HL := Lib.hid hr.ev_len
    have he := fun w => Lib.run_eql_slice_nil (P := Try.prog) w 41 49 (some ad) n c 0 0 Try.underlying41
    have C1 : Hid ((w.alloc (.cells #[] 49)).ownsRow w.heap.size 49 3 (.slice (some ⟨w.heap.size, 0, none⟩) 0 0) 0 []) :=
      ⟨rfl, .inr ⟨_, _, #[], rfl, Nat.le_refl _, blk_at rfl, by omega, by unfold maxLen; omega, rfl, rfl⟩⟩
    have C2 : Hid ((evCells l).length = n * 3) := by show (evCells l).length = n * 3; rw [evCells_len, HL.out]
    have C3 : Hid (∀ j u, (evCells l)[j]? = some u → (w.alloc (.cells #[] 49)).cell? (ad.add j) = some u) := by
      intro j u hu
      have hj := getElem?_lt hu
      rw [evCells_len, HL.out] at hj
      obtain ⟨ad', e, _, hc⟩ := (hr.alloc hB _).lies (by omega)
      injection e with e
      rw [e]
      exact hc j u hu
    clear hA hnone
    go_enter Try.func32, Try.ntmps32
    go_wp2_with (at_builtin; refine wpList_append_own_at _ rfl _ _ _ rfl w.heap.size 49 i0 _ 3 24 Try.underlying41 hi0 hz0 hz1 hz2 rfl (by omega) _ 0 [] rfl C1.out ad n c (evCells l) rfl C2.out C3.out (evCells_one l) (by unfold maxLen; omega) (by omega) (by simp) ?_; intro v' w1 hown1 hgrow hnil hat; obtain ⟨V, c', rfl⟩ := own_form hown1)
    go_ret
    rw [Nat.zero_add] at *
    exact ⟨V, c', rfl, hown1, below_app ((Below.refl _ _).alloc (Nat.le_refl _) _) C1.out hgrow (by simp) (Nat.le_refl _)⟩
end Go.Proofs.Ytkoenjnjkapfmaa
