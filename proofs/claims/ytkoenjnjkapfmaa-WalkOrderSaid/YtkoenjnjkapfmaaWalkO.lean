/- The walk of the law WalkOrder: it returns true, and what was there stays as it was. -/
import Derived.Test.YtkoenjnjkapfmaaWalkB
namespace Go.Proofs.Ytkoenjnjkapfmaa
open Go.RowKit

theorem bytesLess_iff : ∀ x y : List UInt8, (Op.bytesLess x y = true) ↔ x < y
  | [], [] => by simp [Op.bytesLess]
  | _ :: _, [] => by simp [Op.bytesLess]
  | [], _ :: _ => by simp [Op.bytesLess]
  | a :: x, b :: y => by
    rw [List.cons_lt_cons_iff, ← bytesLess_iff x y]
    simp [Op.bytesLess]

theorem aaa_over : OverA [97, 98] [97, 97, 97] := by
  intro c hc
  have : c = 97 := by simpa using hc
  rw [this]
  simp
theorem next_bb (w : World) : Calls Try.prog 37 #[.string ⟨#[97, 98]⟩, .string ⟨#[98, 98]⟩] w fun e w' => e = .returned (.tuple #[.string ⟨#[97, 97, 97]⟩, .int .i64 0]) ∧ Below w.heap.size w w' := by
  have hbb : OverOk (⟨#[97, 98]⟩ : ByteArray).data.toList (⟨#[98, 98]⟩ : ByteArray).data.toList := ⟨ab_ok, by decide, by decide⟩
  refine (next_any ⟨#[97, 98]⟩ ⟨#[98, 98]⟩ w (by decide) (by decide) hbb).mono ?_
  rintro e w' ⟨⟨u, rfl, hu, hr⟩ | ⟨_, h, _⟩, hb⟩
  · refine ⟨?_, hb⟩
    have h : u.data.toList = [97, 97, 97] := rank_inj hu.2.2 aaa_over (hr.trans (by decide))
    rw [bytes_ext (s := ⟨#[97, 97, 97]⟩) h]
  · exact absurd h (by decide)

theorem walk_WalkOrder (a s t : ByteArray) (ha : a.size ≤ 140737488351232) (hs : s.size ≤ 140737488351232) (ht : t.size ≤ 140737488351232) (w : World) :
    Calls Try.prog 12 #[.string a, .string s, .string t] w fun e w' => e = .returned (.bool true) ∧ Below w.heap.size w w' := by
  have HLA := Lib.hid (size_list a)
  have HLS := Lib.hid (size_list s)
  have HLT := Lib.hid (size_list t)
  by_cases ho : OverOk a.data.toList s.data.toList
  · by_cases ho' : OverOk a.data.toList t.data.toList
    · have hc := rank_cmp ho.1 ho.2.2 ho'.2.2
      have hlt := rank_le ho'.2.1 ho'.2.2
      rw [HLS.out, HLT.out] at hc
      have hd : ∃ β : Bool, Op.bytesLess s.toList t.toList = β ∧ (rank a.data.toList s.data.toList < rank a.data.toList t.data.toList ↔ s.size < t.size ∨ s.size = t.size ∧ β = true) := by
        refine ⟨_, rfl, ?_⟩
        rw [hc, bytesLess_iff, ByteArray.toList_eq, ByteArray.toList_eq]
      obtain ⟨β, hβ, hc'⟩ := hd
      have HLT7 := Lib.hid hlt
      generalize hR : rank a.data.toList s.data.toList = R at hc'
      generalize hM : rank a.data.toList t.data.toList = M at hc'
      have HR := Lib.hid hR
      have HM := Lib.hid hM
      have HO := Lib.hid ho
      have HO' := Lib.hid ho'
      have HB := Lib.hid hβ
      clear hc hlt hR hM ho ho' hβ
      have hcases : (s.size < t.size ∧ R < M) ∨ (s.size = t.size ∧ β = true ∧ R < M) ∨ (s.size = t.size ∧ β = false ∧ ¬ R < M) ∨ (t.size < s.size ∧ ¬ R < M) := by
        rcases Nat.lt_trichotomy s.size t.size with h | h | h
        · exact .inl ⟨h, hc'.2 (.inl h)⟩
        · cases β
          · exact .inr (.inr (.inl ⟨h, rfl, fun h' => by rcases hc'.1 h' with h2 | ⟨_, h2⟩; omega; cases h2⟩))
          · exact .inr (.inl ⟨h, rfl, hc'.2 (.inr ⟨h, rfl⟩)⟩)
        · exact .inr (.inr (.inr ⟨h, fun h' => by rcases hc'.1 h' with h2 | ⟨h2, _⟩ <;> omega⟩))
      clear hc'
      have HMX : Hid (M < shN a.size 7) := by show M < _; have := HLT7.out; rw [HM.out, HLA.out] at this; exact this
      go_enter Try.func12, Try.ntmps12
      go_wp2_with fail
      refine (next_bb _).mono ?_
      rintro e w1 ⟨rfl, hb1⟩
      have hw1 : Below w.heap.size w w1 := Below.trans (by repeat (first | exact Below.refl _ _ | assumption | refine Below.drew ?_ | refine below_drewN ?_ _ | refine Below.alloc ?_ (by first | omega | (simp; omega) | simp) _ | refine Below.setCell ?_ (by first | omega | (simp; omega) | simp) _)) (hb1.mono (by first | omega | (simp; omega) | simp)); have hzw1 := hw1.size; clear hb1
      go_wp2_with fail
      refine (rank_yes a s _ ha hs HO.out).mono ?_
      rintro e w2 ⟨rfl, hd⟩
      have hb2 : Below w1.heap.size w1 w2 := below_of_drew hd
      have hw2 : Below w.heap.size w w2 := Below.trans (by repeat (first | exact Below.refl _ _ | assumption | refine Below.drew ?_ | refine below_drewN ?_ _ | refine Below.alloc ?_ (by first | omega | (simp; omega) | simp) _ | refine Below.setCell ?_ (by first | omega | (simp; omega) | simp) _)) (hb2.mono (by first | omega | (simp; omega) | simp)); have hzw2 := hw2.size; clear hb2
      clear hd
      rw [HR.out]
      go_wp2_with fail
      refine (rank_yes a t _ ha ht HO'.out).mono ?_
      rintro e w3 ⟨rfl, hd⟩
      have hb3 : Below w2.heap.size w2 w3 := below_of_drew hd
      have hw3 : Below w.heap.size w w3 := Below.trans (by repeat (first | exact Below.refl _ _ | assumption | refine Below.drew ?_ | refine below_drewN ?_ _ | refine Below.alloc ?_ (by first | omega | (simp; omega) | simp) _ | refine Below.setCell ?_ (by first | omega | (simp; omega) | simp) _)) (hb3.mono (by first | omega | (simp; omega) | simp)); have hzw3 := hw3.size; clear hb3
      clear hd
      rw [HM.out]
      have hfin : ∀ {l m : Nat}, l + 1 = m → M < m → M ≤ l := fun h1 h2 => by omega
      rcases hcases with ⟨h1, h2⟩ | ⟨h1, rfl, h2⟩ | ⟨h1, rfl, h2⟩ | ⟨h1, h2⟩
      all_goals
        have hβ := HB.out
        go_wp2_with fail
        refine (next_any a s _ ha hs HO.out).mono ?_
        rintro e w4 ⟨⟨u, rfl, hu, hru⟩ | ⟨rfl, h6, hr6⟩, hb4⟩
        · have hw4 : Below w.heap.size w w4 := Below.trans (by repeat (first | exact Below.refl _ _ | assumption | refine Below.drew ?_ | refine below_drewN ?_ _ | refine Below.alloc ?_ (by first | omega | (simp; omega) | simp) _ | refine Below.setCell ?_ (by first | omega | (simp; omega) | simp) _)) (hb4.mono (by first | omega | (simp; omega) | simp)); have hzw4 := hw4.size; clear hb4
          clear hβ h1 h2
          go_wp2_with fail
          have hu6 : u.size ≤ 140737488351232 := by have := hu.2.1; have := size_list u; omega
          refine (rank_yes a u _ ha hu6 hu).mono ?_
          rintro e w5 ⟨rfl, hd⟩
          have hb5 : Below w4.heap.size w4 w5 := below_of_drew hd
          have hw5 : Below w.heap.size w w5 := Below.trans (by repeat (first | exact Below.refl _ _ | assumption | refine Below.drew ?_ | refine below_drewN ?_ _ | refine Below.alloc ?_ (by first | omega | (simp; omega) | simp) _ | refine Below.setCell ?_ (by first | omega | (simp; omega) | simp) _)) (hb5.mono (by first | omega | (simp; omega) | simp)); have hzw5 := hw5.size; clear hb5
          rw [hru, HR.out]
          have hRb : R ≤ 20000000 := by
            have h1 := rank_le HO.out.2.1 HO.out.2.2
            have h2 := shN_le HO.out.1.2.1 7 (by omega)
            rw [HR.out] at h1
            omega
          clear hru hd hu
          go_wp2
          go_ret
          exact ⟨rfl, hw5⟩
        · have hw4 : Below w.heap.size w w4 := Below.trans (by repeat (first | exact Below.refl _ _ | assumption | refine Below.drew ?_ | refine below_drewN ?_ _ | refine Below.alloc ?_ (by first | omega | (simp; omega) | simp) _ | refine Below.setCell ?_ (by first | omega | (simp; omega) | simp) _)) (hb4.mono (by first | omega | (simp; omega) | simp)); have hzw4 := hw4.size; clear hb4
          have h6' : s.size = 6 := by rw [HLS.out] at h6; exact h6
          have hML : M ≤ R := by rw [HR.out, HLA.out] at hr6; exact hfin hr6 HMX.out
          have H6 : ((s.size : Int) == 6) = true := by rw [beq_iff_eq]; omega
          clear hβ h6 hr6 h6' h1 h2
          go_wp2
          go_ret
          exact ⟨rfl, hw4⟩
    · go_enter Try.func12, Try.ntmps12
      go_wp2_with fail
      refine (next_bb _).mono ?_
      rintro e w1 ⟨rfl, hb1⟩
      have hw1 : Below w.heap.size w w1 := Below.trans (by repeat (first | exact Below.refl _ _ | assumption | refine Below.drew ?_ | refine below_drewN ?_ _ | refine Below.alloc ?_ (by first | omega | (simp; omega) | simp) _ | refine Below.setCell ?_ (by first | omega | (simp; omega) | simp) _)) (hb1.mono (by first | omega | (simp; omega) | simp)); have hzw1 := hw1.size; clear hb1
      go_wp2_with fail
      refine (rank_yes a s _ ha hs ho).mono ?_
      rintro e w2 ⟨rfl, hd⟩
      have hb2 : Below w1.heap.size w1 w2 := below_of_drew hd
      have hw2 : Below w.heap.size w w2 := Below.trans (by repeat (first | exact Below.refl _ _ | assumption | refine Below.drew ?_ | refine below_drewN ?_ _ | refine Below.alloc ?_ (by first | omega | (simp; omega) | simp) _ | refine Below.setCell ?_ (by first | omega | (simp; omega) | simp) _)) (hb2.mono (by first | omega | (simp; omega) | simp)); have hzw2 := hw2.size; clear hb2
      clear hd
      go_wp2_with fail
      refine (rank_no a t _ ha ht ho').mono ?_
      rintro e w3 ⟨⟨y, rfl, hy⟩, hd⟩
      have hb3 : Below w2.heap.size w2 w3 := below_of_drew hd
      have hw3 : Below w.heap.size w w3 := Below.trans (by repeat (first | exact Below.refl _ _ | assumption | refine Below.drew ?_ | refine below_drewN ?_ _ | refine Below.alloc ?_ (by first | omega | (simp; omega) | simp) _ | refine Below.setCell ?_ (by first | omega | (simp; omega) | simp) _)) (hb3.mono (by first | omega | (simp; omega) | simp)); have hzw3 := hw3.size; clear hb3
      have hyb : (y != 0) = true := by simpa using hy
      clear hy hd ho ho'
      go_wp2
      go_ret
      exact ⟨rfl, hw3⟩
  · by_cases ho' : OverOk a.data.toList t.data.toList
    · go_enter Try.func12, Try.ntmps12
      go_wp2_with fail
      refine (next_bb _).mono ?_
      rintro e w1 ⟨rfl, hb1⟩
      have hw1 : Below w.heap.size w w1 := Below.trans (by repeat (first | exact Below.refl _ _ | assumption | refine Below.drew ?_ | refine below_drewN ?_ _ | refine Below.alloc ?_ (by first | omega | (simp; omega) | simp) _ | refine Below.setCell ?_ (by first | omega | (simp; omega) | simp) _)) (hb1.mono (by first | omega | (simp; omega) | simp)); have hzw1 := hw1.size; clear hb1
      go_wp2_with fail
      refine (rank_no a s _ ha hs ho).mono ?_
      rintro e w2 ⟨⟨y, rfl, hy⟩, hd⟩
      have hb2 : Below w1.heap.size w1 w2 := below_of_drew hd
      have hw2 : Below w.heap.size w w2 := Below.trans (by repeat (first | exact Below.refl _ _ | assumption | refine Below.drew ?_ | refine below_drewN ?_ _ | refine Below.alloc ?_ (by first | omega | (simp; omega) | simp) _ | refine Below.setCell ?_ (by first | omega | (simp; omega) | simp) _)) (hb2.mono (by first | omega | (simp; omega) | simp)); have hzw2 := hw2.size; clear hb2
      have hyb : (y != 0) = true := by simpa using hy
      clear hy hd ho
      go_wp2_with fail
      refine (rank_yes a t _ ha ht ho').mono ?_
      rintro e w3 ⟨rfl, hd⟩
      have hb3 : Below w2.heap.size w2 w3 := below_of_drew hd
      have hw3 : Below w.heap.size w w3 := Below.trans (by repeat (first | exact Below.refl _ _ | assumption | refine Below.drew ?_ | refine below_drewN ?_ _ | refine Below.alloc ?_ (by first | omega | (simp; omega) | simp) _ | refine Below.setCell ?_ (by first | omega | (simp; omega) | simp) _)) (hb3.mono (by first | omega | (simp; omega) | simp)); have hzw3 := hw3.size; clear hb3
      clear hd ho'
      go_wp2
      go_ret
      exact ⟨rfl, hw3⟩
    · go_enter Try.func12, Try.ntmps12
      go_wp2_with fail
      refine (next_bb _).mono ?_
      rintro e w1 ⟨rfl, hb1⟩
      have hw1 : Below w.heap.size w w1 := Below.trans (by repeat (first | exact Below.refl _ _ | assumption | refine Below.drew ?_ | refine below_drewN ?_ _ | refine Below.alloc ?_ (by first | omega | (simp; omega) | simp) _ | refine Below.setCell ?_ (by first | omega | (simp; omega) | simp) _)) (hb1.mono (by first | omega | (simp; omega) | simp)); have hzw1 := hw1.size; clear hb1
      go_wp2_with fail
      refine (rank_no a s _ ha hs ho).mono ?_
      rintro e w2 ⟨⟨y, rfl, hy⟩, hd⟩
      have hb2 : Below w1.heap.size w1 w2 := below_of_drew hd
      have hw2 : Below w.heap.size w w2 := Below.trans (by repeat (first | exact Below.refl _ _ | assumption | refine Below.drew ?_ | refine below_drewN ?_ _ | refine Below.alloc ?_ (by first | omega | (simp; omega) | simp) _ | refine Below.setCell ?_ (by first | omega | (simp; omega) | simp) _)) (hb2.mono (by first | omega | (simp; omega) | simp)); have hzw2 := hw2.size; clear hb2
      have hyb : (y != 0) = true := by simpa using hy
      clear hy hd ho
      go_wp2_with fail
      refine (rank_no a t _ ha ht ho').mono ?_
      rintro e w3 ⟨⟨z, rfl, hz⟩, hd⟩
      have hb3 : Below w2.heap.size w2 w3 := below_of_drew hd
      have hw3 : Below w.heap.size w w3 := Below.trans (by repeat (first | exact Below.refl _ _ | assumption | refine Below.drew ?_ | refine below_drewN ?_ _ | refine Below.alloc ?_ (by first | omega | (simp; omega) | simp) _ | refine Below.setCell ?_ (by first | omega | (simp; omega) | simp) _)) (hb3.mono (by first | omega | (simp; omega) | simp)); have hzw3 := hw3.size; clear hb3
      have hzb : (z != 0) = true := by simpa using hz
      clear hz hd ho'
      go_wp2
      go_ret
      exact ⟨rfl, hw3⟩
end Go.Proofs.Ytkoenjnjkapfmaa
