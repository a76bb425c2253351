/- The walks of the laws WalkBack and WalkOrder: they return true, and what was there stays as it was. -/
import Derived.Test.YtkoenjnjkapfmaaStr5
import Derived.Test.YtkoenjnjkapfmaaWalkM
namespace Go.Proofs.Ytkoenjnjkapfmaa
open Go.RowKit

theorem bytes_ext {u s : ByteArray} (h : u.data.toList = s.data.toList) : u = s := by
  obtain ⟨⟨l⟩⟩ := u
  obtain ⟨⟨m⟩⟩ := s
  simp at h
  rw [h]
theorem ab_ok : AlphaOk (⟨#[97, 98]⟩ : ByteArray).data.toList := by
  refine ⟨by decide, by decide, fun i h1 h2 => ?_⟩
  have : i < 2 := h2
  obtain rfl : i = 1 := by omega
  decide
theorem rank_le {a l : List UInt8} (hl : l.length ≤ 6) (h : OverA a l) : rank a l < shN a.length 7 := by
  have h1 := (rank_bd h).2
  have h2 := shN_mono (m := a.length) (show l.length + 1 ≤ 7 by omega)
  omega

theorem unrank_ab (w : World) : Calls Try.prog 38 #[.string ⟨#[97, 98]⟩, .int .i64 4] w fun e w' => e = .returned (.tuple #[.string ⟨#[97, 98]⟩, .int .i64 0]) ∧ Below w.heap.size w w' := by
  refine (unrank_yes ⟨#[97, 98]⟩ 4 w (by decide) ab_ok (by decide)).mono ?_
  rintro e w' ⟨⟨u, rfl, hu, hr⟩, hb⟩
  refine ⟨?_, hb⟩
  have h : u.data.toList = [97, 98] := rank_inj hu.2.2 (show OverA [97, 98] [97, 98] from fun c hc => hc) (hr.trans (by decide))
  rw [bytes_ext (s := ⟨#[97, 98]⟩) h]

theorem walk_WalkBack (a s : ByteArray) (n : Int) (ha : a.size ≤ 140737488351232) (hs : s.size ≤ 140737488351232) (hn : I64 n) (w : World) :
    Calls Try.prog 13 #[.string a, .string s, .int .i64 n] w fun e w' => e = .returned (.bool true) ∧ Below w.heap.size w w' := by
  have HLA := Lib.hid (size_list a)
  have HLS := Lib.hid (size_list s)
  by_cases ho : OverOk a.data.toList s.data.toList
  · have hlt := rank_le ho.2.1 ho.2.2
    rw [HLA.out] at hlt
    by_cases hr : 0 ≤ n ∧ n < shN a.size 7
    · obtain ⟨m, rfl⟩ := Int.eq_ofNat_of_zero_le hr.1
      have hm : m < shN a.size 7 := by have := hr.2; omega
      have HM := Lib.hid hm
      clear hr hm
      go_enter Try.func13, Try.ntmps13
      go_wp2_with fail
      refine (unrank_ab _).mono ?_
      rintro e w1 ⟨rfl, hb1⟩
      have hw1 : Below w.heap.size w w1 := Below.trans (by repeat (first | exact Below.refl _ _ | assumption | refine Below.drew ?_ | refine below_drewN ?_ _ | refine Below.alloc ?_ (by first | omega | (simp; omega) | simp) _ | refine Below.setCell ?_ (by first | omega | (simp; omega) | simp) _)) (hb1.mono (by first | omega | (simp; omega) | simp)); have hzw1 := hw1.size; clear hb1
      go_wp2_with fail
      refine (rank_yes a s _ ha hs ho).mono ?_
      rintro e w2 ⟨rfl, hd⟩
      have hb2 : Below w1.heap.size w1 w2 := below_of_drew hd
      have hw2 : Below w.heap.size w w2 := Below.trans (by repeat (first | exact Below.refl _ _ | assumption | refine Below.drew ?_ | refine below_drewN ?_ _ | refine Below.alloc ?_ (by first | omega | (simp; omega) | simp) _ | refine Below.setCell ?_ (by first | omega | (simp; omega) | simp) _)) (hb2.mono (by first | omega | (simp; omega) | simp)); have hzw2 := hw2.size; clear hb2
      go_wp2_with fail
      refine (unrank_yes a (rank a.data.toList s.data.toList) _ ha ho.1 hlt).mono ?_
      rintro e w3 ⟨⟨u, rfl, hu, hru⟩, hb3⟩
      obtain rfl := bytes_ext (rank_inj hu.2.2 ho.2.2 hru)
      have hw3 : Below w.heap.size w w3 := Below.trans (by repeat (first | exact Below.refl _ _ | assumption | refine Below.drew ?_ | refine below_drewN ?_ _ | refine Below.alloc ?_ (by first | omega | (simp; omega) | simp) _ | refine Below.setCell ?_ (by first | omega | (simp; omega) | simp) _)) (hb3.mono (by first | omega | (simp; omega) | simp)); have hzw3 := hw3.size; clear hb3
      clear hu hru hlt
      go_wp2_with fail
      refine (unrank_yes a m _ ha ho.1 HM.out).mono ?_
      rintro e w4 ⟨⟨t, rfl, ht, hrt⟩, hb4⟩
      have hw4 : Below w.heap.size w w4 := Below.trans (by repeat (first | exact Below.refl _ _ | assumption | refine Below.drew ?_ | refine below_drewN ?_ _ | refine Below.alloc ?_ (by first | omega | (simp; omega) | simp) _ | refine Below.setCell ?_ (by first | omega | (simp; omega) | simp) _)) (hb4.mono (by first | omega | (simp; omega) | simp)); have hzw4 := hw4.size; clear hb4
      go_wp2_with fail
      have ht6 : t.size ≤ 140737488351232 := by have := ht.2.1; have := size_list t; omega
      refine (rank_yes a t _ ha ht6 ht).mono ?_
      rintro e w5 ⟨rfl, hd⟩
      have hb5 : Below w4.heap.size w4 w5 := below_of_drew hd
      have hw5 : Below w.heap.size w w5 := Below.trans (by repeat (first | exact Below.refl _ _ | assumption | refine Below.drew ?_ | refine below_drewN ?_ _ | refine Below.alloc ?_ (by first | omega | (simp; omega) | simp) _ | refine Below.setCell ?_ (by first | omega | (simp; omega) | simp) _)) (hb5.mono (by first | omega | (simp; omega) | simp)); have hzw5 := hw5.size; clear hb5
      rw [hrt]
      clear hrt
      go_wp2
      go_ret
      exact ⟨rfl, hw5⟩
    · have hno : ¬ (AlphaOk a.data.toList ∧ 0 ≤ n ∧ n < shN a.size 7) := fun h => hr h.2
      clear hr
      go_enter Try.func13, Try.ntmps13
      go_wp2_with fail
      refine (unrank_ab _).mono ?_
      rintro e w1 ⟨rfl, hb1⟩
      have hw1 : Below w.heap.size w w1 := Below.trans (by repeat (first | exact Below.refl _ _ | assumption | refine Below.drew ?_ | refine below_drewN ?_ _ | refine Below.alloc ?_ (by first | omega | (simp; omega) | simp) _ | refine Below.setCell ?_ (by first | omega | (simp; omega) | simp) _)) (hb1.mono (by first | omega | (simp; omega) | simp)); have hzw1 := hw1.size; clear hb1
      go_wp2_with fail
      refine (rank_yes a s _ ha hs ho).mono ?_
      rintro e w2 ⟨rfl, hd⟩
      have hb2 : Below w1.heap.size w1 w2 := below_of_drew hd
      have hw2 : Below w.heap.size w w2 := Below.trans (by repeat (first | exact Below.refl _ _ | assumption | refine Below.drew ?_ | refine below_drewN ?_ _ | refine Below.alloc ?_ (by first | omega | (simp; omega) | simp) _ | refine Below.setCell ?_ (by first | omega | (simp; omega) | simp) _)) (hb2.mono (by first | omega | (simp; omega) | simp)); have hzw2 := hw2.size; clear hb2
      go_wp2_with fail
      refine (unrank_yes a (rank a.data.toList s.data.toList) _ ha ho.1 hlt).mono ?_
      rintro e w3 ⟨⟨u, rfl, hu, hru⟩, hb3⟩
      obtain rfl := bytes_ext (rank_inj hu.2.2 ho.2.2 hru)
      have hw3 : Below w.heap.size w w3 := Below.trans (by repeat (first | exact Below.refl _ _ | assumption | refine Below.drew ?_ | refine below_drewN ?_ _ | refine Below.alloc ?_ (by first | omega | (simp; omega) | simp) _ | refine Below.setCell ?_ (by first | omega | (simp; omega) | simp) _)) (hb3.mono (by first | omega | (simp; omega) | simp)); have hzw3 := hw3.size; clear hb3
      clear hu hru hlt
      go_wp2_with fail
      refine (unrank_no a n _ ha hn hno).mono ?_
      rintro e w4 ⟨⟨x, rfl, hx⟩, hb4⟩
      have hw4 : Below w.heap.size w w4 := Below.trans (by repeat (first | exact Below.refl _ _ | assumption | refine Below.drew ?_ | refine below_drewN ?_ _ | refine Below.alloc ?_ (by first | omega | (simp; omega) | simp) _ | refine Below.setCell ?_ (by first | omega | (simp; omega) | simp) _)) (hb4.mono (by first | omega | (simp; omega) | simp)); have hzw4 := hw4.size; clear hb4
      have hxb : (x != 0) = true := by simpa using hx
      clear hx hno ho
      go_wp2
      go_ret
      exact ⟨rfl, hw4⟩
  · by_cases hr : AlphaOk a.data.toList ∧ 0 ≤ n ∧ n < shN a.size 7
    · obtain ⟨m, rfl⟩ := Int.eq_ofNat_of_zero_le hr.2.1
      have hm : m < shN a.size 7 := by have := hr.2.2; omega
      have HM := Lib.hid hm
      have HAO := Lib.hid hr.1
      clear hr hm
      go_enter Try.func13, Try.ntmps13
      go_wp2_with fail
      refine (unrank_ab _).mono ?_
      rintro e w1 ⟨rfl, hb1⟩
      have hw1 : Below w.heap.size w w1 := Below.trans (by repeat (first | exact Below.refl _ _ | assumption | refine Below.drew ?_ | refine below_drewN ?_ _ | refine Below.alloc ?_ (by first | omega | (simp; omega) | simp) _ | refine Below.setCell ?_ (by first | omega | (simp; omega) | simp) _)) (hb1.mono (by first | omega | (simp; omega) | simp)); have hzw1 := hw1.size; clear hb1
      go_wp2_with fail
      refine (rank_no a s _ ha hs ho).mono ?_
      rintro e w2 ⟨⟨y, rfl, hy⟩, hd⟩
      have hb2 : Below w1.heap.size w1 w2 := below_of_drew hd
      have hw2 : Below w.heap.size w w2 := Below.trans (by repeat (first | exact Below.refl _ _ | assumption | refine Below.drew ?_ | refine below_drewN ?_ _ | refine Below.alloc ?_ (by first | omega | (simp; omega) | simp) _ | refine Below.setCell ?_ (by first | omega | (simp; omega) | simp) _)) (hb2.mono (by first | omega | (simp; omega) | simp)); have hzw2 := hw2.size; clear hb2
      have hyb : (y == 0) = false := by simpa using hy
      clear hy hd
      go_wp2_with fail
      refine (unrank_yes a m _ ha HAO.out HM.out).mono ?_
      rintro e w4 ⟨⟨t, rfl, ht, hrt⟩, hb4⟩
      have hw4 : Below w.heap.size w w4 := Below.trans (by repeat (first | exact Below.refl _ _ | assumption | refine Below.drew ?_ | refine below_drewN ?_ _ | refine Below.alloc ?_ (by first | omega | (simp; omega) | simp) _ | refine Below.setCell ?_ (by first | omega | (simp; omega) | simp) _)) (hb4.mono (by first | omega | (simp; omega) | simp)); have hzw4 := hw4.size; clear hb4
      go_wp2_with fail
      have ht6 : t.size ≤ 140737488351232 := by have := ht.2.1; have := size_list t; omega
      refine (rank_yes a t _ ha ht6 ht).mono ?_
      rintro e w5 ⟨rfl, hd⟩
      have hb5 : Below w4.heap.size w4 w5 := below_of_drew hd
      have hw5 : Below w.heap.size w w5 := Below.trans (by repeat (first | exact Below.refl _ _ | assumption | refine Below.drew ?_ | refine below_drewN ?_ _ | refine Below.alloc ?_ (by first | omega | (simp; omega) | simp) _ | refine Below.setCell ?_ (by first | omega | (simp; omega) | simp) _)) (hb5.mono (by first | omega | (simp; omega) | simp)); have hzw5 := hw5.size; clear hb5
      rw [hrt]
      clear hrt
      go_wp2
      go_ret
      exact ⟨rfl, hw5⟩
    · go_enter Try.func13, Try.ntmps13
      go_wp2_with fail
      refine (unrank_ab _).mono ?_
      rintro e w1 ⟨rfl, hb1⟩
      have hw1 : Below w.heap.size w w1 := Below.trans (by repeat (first | exact Below.refl _ _ | assumption | refine Below.drew ?_ | refine below_drewN ?_ _ | refine Below.alloc ?_ (by first | omega | (simp; omega) | simp) _ | refine Below.setCell ?_ (by first | omega | (simp; omega) | simp) _)) (hb1.mono (by first | omega | (simp; omega) | simp)); have hzw1 := hw1.size; clear hb1
      go_wp2_with fail
      refine (rank_no a s _ ha hs ho).mono ?_
      rintro e w2 ⟨⟨y, rfl, hy⟩, hd⟩
      have hb2 : Below w1.heap.size w1 w2 := below_of_drew hd
      have hw2 : Below w.heap.size w w2 := Below.trans (by repeat (first | exact Below.refl _ _ | assumption | refine Below.drew ?_ | refine below_drewN ?_ _ | refine Below.alloc ?_ (by first | omega | (simp; omega) | simp) _ | refine Below.setCell ?_ (by first | omega | (simp; omega) | simp) _)) (hb2.mono (by first | omega | (simp; omega) | simp)); have hzw2 := hw2.size; clear hb2
      have hyb : (y == 0) = false := by simpa using hy
      clear hy hd
      go_wp2_with fail
      refine (unrank_no a n _ ha hn hr).mono ?_
      rintro e w4 ⟨⟨x, rfl, hx⟩, hb4⟩
      have hw4 : Below w.heap.size w w4 := Below.trans (by repeat (first | exact Below.refl _ _ | assumption | refine Below.drew ?_ | refine below_drewN ?_ _ | refine Below.alloc ?_ (by first | omega | (simp; omega) | simp) _ | refine Below.setCell ?_ (by first | omega | (simp; omega) | simp) _)) (hb4.mono (by first | omega | (simp; omega) | simp)); have hzw4 := hw4.size; clear hb4
      have hxb : (x != 0) = true := by simpa using hx
      clear hx hr ho
      go_wp2
      go_ret
      exact ⟨rfl, hw4⟩
end Go.Proofs.Ytkoenjnjkapfmaa
