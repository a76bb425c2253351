/- The walk of the law QuoteBack: it returns true, and what was there stays as it was. -/
import Derived.Test.YtkoenjnjkapfmaaQuoLaw
namespace Go.Proofs.Ytkoenjnjkapfmaa
open Go.RowKit

theorem bytes_eq {u s : ByteArray} (h : u.data.toList = s.data.toList) : u = s := by
  obtain ⟨⟨l⟩⟩ := u
  obtain ⟨⟨m⟩⟩ := s
  simp at h
  rw [h]
theorem lit_quote (w : World) : Calls Try.prog 35 #[.string ⟨#[39]⟩] w fun e w' => e = .returned (.string ⟨#[39, 92, 39, 39]⟩) ∧ Below w.heap.size w w' := by
  refine (lit_any ⟨#[39]⟩ w (by decide)).mono ?_
  rintro e w' ⟨⟨u, rfl, hu⟩, hb⟩
  have h : u.data.toList = [39, 92, 39, 39] := by rw [hu]; decide +kernel
  exact ⟨by rw [bytes_eq (s := ⟨#[39, 92, 39, 39]⟩) h], hb⟩

theorem unlit_of (s more u : ByteArray) (hs : s.size ≤ 140737488351232) (hm : more.size ≤ 140737488351232) (hu : u.data.toList = litL s.data.toList) (w : World) :
    Calls Try.prog 36 #[.string (u ++ more)] w fun e w' => e = .returned (.tuple #[.string s, .int .i64 u.size, .int .i64 0]) ∧ Below w.heap.size w w' := by
  have hls := size_list s
  have hlm := size_list more
  have hlu := size_list u
  have hl4 := encAll_len false s.data.toList
  have hd : (u ++ more).data.toList = 39 :: (encAll false s.data.toList ++ 39 :: more.data.toList) := by rw [app_data, hu]; simp [litL]
  have hlt := size_list (u ++ more)
  rw [hd] at hlt
  simp only [List.length_cons, List.length_append] at hlt
  have hul : u.size = 1 + ((encAll false s.data.toList).length + 1) := by rw [← hlu, hu]; simp [litL]; omega
  refine (unlit_yes (u ++ more) w (by omega) (by omega) 39 (by rw [hd]; rfl) (.inl rfl) s.data.toList ((encAll false s.data.toList).length + 1) ?_ (by omega)).mono ?_
  · rw [hd, List.drop_one, List.tail_cons]
    exact unl_enc _ _ _ (by omega)
  · rintro e w' ⟨rfl, hb⟩
    refine ⟨?_, hb⟩
    rw [hul, bytes_eq (u := ⟨s.data.toList.toArray⟩) (s := s) (by simp)]

theorem walk_QuoteBack (s more : ByteArray) (hs : s.size ≤ 140737488351232) (hm : more.size ≤ 140737488351232) (w : World) :
    Calls Try.prog 11 #[.string s, .string more] w fun e w' => e = .returned (.bool true) ∧ Below w.heap.size w w' := by
  go_enter Try.func11, Try.ntmps11
  go_wp2_with fail
  refine (lit_any s _ hs).mono ?_
  rintro e w1 ⟨⟨u, rfl, hu⟩, hb1⟩
  have hw1 : Below w.heap.size w w1 := Below.trans (by repeat (first | exact Below.refl _ _ | assumption | refine Below.drew ?_ | refine below_drewN ?_ _ | refine Below.alloc ?_ (by first | omega | (simp; omega) | simp) _ | refine Below.setCell ?_ (by first | omega | (simp; omega) | simp) _)) (hb1.mono (by first | omega | (simp; omega) | simp)); have hzw1 := hw1.size; clear hb1
  have hls := size_list s
  have hlu := size_list u
  have hub : u.size ≤ 1125899906842624 := by
    have h1 := encAll_len false s.data.toList
    rw [hu] at hlu
    simp [litL] at hlu
    simp at h1
    omega
  have HU := Lib.hid hu
  clear hu hls hlu
  go_wp2_with fail
  go_loop [6, 14] (fun _ i => ∃ k : Nat, k ≤ u.size ∧ i = .int .i64 k) (fun _ i => u.size - (intOf i).toNat)
  case atStart => exact ⟨0, by omega, rfl⟩
  case round =>
    obtain ⟨k, hk, rfl⟩ := hrel
    by_cases hkn : k < u.size
    · have hx := litL_seen s.data.toList u[k] (by rw [← HU.out]; exact List.mem_of_getElem? (get_byte hkn))
      obtain ⟨hx1, hx2⟩ := hx
      go_wp2
      go_round
      case rel => exact ⟨k + 1, by omega, by go_num⟩
      case measure => simp [intOf]; omega
    · go_wp2_with fail
      refine (unlit_of s more u hs hm HU.out _).mono ?_
      rintro e w2 ⟨rfl, hb2⟩
      have hw2 : Below w.heap.size w w2 := Below.trans (by repeat (first | exact Below.refl _ _ | assumption | refine Below.drew ?_ | refine below_drewN ?_ _ | refine Below.alloc ?_ (by first | omega | (simp; omega) | simp) _ | refine Below.setCell ?_ (by first | omega | (simp; omega) | simp) _)) (hb2.mono (by first | omega | (simp; omega) | simp)); have hzw2 := hw2.size; clear hb2
      have hss : (s.toList == s.toList) = true := by simp
      go_wp2_with fail
      refine (lit_quote _).mono ?_
      rintro e w3 ⟨rfl, hb3⟩
      have hw3 : Below w.heap.size w w3 := Below.trans (by repeat (first | exact Below.refl _ _ | assumption | refine Below.drew ?_ | refine below_drewN ?_ _ | refine Below.alloc ?_ (by first | omega | (simp; omega) | simp) _ | refine Below.setCell ?_ (by first | omega | (simp; omega) | simp) _)) (hb3.mono (by first | omega | (simp; omega) | simp)); have hzw3 := hw3.size; clear hb3
      have hqq : ((⟨#[39, 92, 39, 39]⟩ : ByteArray).toList == (⟨#[39, 92, 39, 39]⟩ : ByteArray).toList) = true := by simp
      go_wp2
      go_ret
      exact ⟨rfl, hw3⟩
end Go.Proofs.Ytkoenjnjkapfmaa
