/- The walk of the law CoverOwn: it returns true, and what was there stays as it was. -/
import Derived.Test.YtkoenjnjkapfmaaCovO
namespace Go.Proofs.Ytkoenjnjkapfmaa
open Go.RowKit

theorem walk_CoverOwn (A A' : Option Addr) (n c n' c' : Nat) (a b : List Int) (w : World)
    (ha : Reads w w.heap.size 1 A n (ints a)) (hb : Reads w w.heap.size 1 A' n' (ints b)) (hA : A = none → c = 0) (hA' : A' = none → c' = 0) (hn : Small c) (hn' : Small c') (hnc : n ≤ c) (hnc' : n' ≤ c') :
    Calls Try.prog 5 #[.slice A n c, .slice A' n' c'] w fun e w' => e = .returned (.bool true) ∧ Below w.heap.size w w' := by
  have sn : Small n := by unfold Small at *; omega
  have sn' : Small n' := by unfold Small at *; omega
  have HA := Lib.hid hA
  have HA' := Lib.hid hA'
  have hla := ha.ints_len
  have hlb := hb.ints_len
  have HLA := Lib.hid hla
  have HLB := Lib.hid hlb
  clear hA hA' hn hn' hla hlb
  go_enter Try.func5, Try.ntmps5
  go_wp2_with fail
  refine (roomy_any _ _ _ a 9 _ _ ha (Nat.le_refl _) HA.out sn).mono ?_
  rintro e w1 ⟨g, xs, rfl, hg, hx, hxs, hb1⟩
  have hw1 : Below w.heap.size w w1 := Below.trans (by repeat (first | exact Below.refl _ _ | assumption | refine Below.drew ?_ | refine below_drewN ?_ _ | refine Below.alloc ?_ (by first | omega | (simp; omega) | simp) _)) (hb1.mono (by first | omega | (simp; omega) | simp)); have hzw1 := hw1.size; clear hb1
  go_wp2_with fail
  refine (roomy_any _ _ _ b 9 w.heap.size _ (hb.below hw1) hzw1 HA'.out sn').mono ?_
  rintro e w2 ⟨g', ys, rfl, hg', hy, hys, hb2⟩
  have hgg : g < w1.heap.size := hx.lt
  replace hx := hx.below hb2 hgg
  have hw2 : Below w.heap.size w w2 := Below.trans (by repeat (first | exact Below.refl _ _ | assumption | refine Below.drew ?_ | refine below_drewN ?_ _ | refine Below.alloc ?_ (by first | omega | (simp; omega) | simp) _)) (hb2.mono (by first | omega | (simp; omega) | simp)); have hzw2 := hw2.size; clear hb2
  have hgg' : g' < w2.heap.size := hy.lt
  have hzs : Reads w2 w2.heap.size 1 (some ⟨g, 0, none⟩) n (ints a) := by
    refine ⟨by rw [ints_length, HLA.out]; omega, fun _ => ⟨_, rfl, hx.lt, fun j u hu => World.news_of_block hx j u ?_⟩⟩
    rw [hxs, ints_append, List.getElem?_append_left (getElem?_lt hu)]; exact hu
  have hzs' : Reads w2 w2.heap.size 1 (some ⟨g', 0, none⟩) n' (ints b) := by
    refine ⟨by rw [ints_length, HLB.out]; omega, fun _ => ⟨_, rfl, hy.lt, fun j u hu => World.news_of_block hy j u ?_⟩⟩
    rw [hys, ints_append, List.getElem?_append_left (getElem?_lt hu)]; exact hu
  have hcx : xs[n]? = some (.int .i64 9) := by
    rw [← Array.getElem?_toList, hxs, ints_append, List.getElem?_append_right (by rw [ints_length, HLA.out]; omega), ints_length, HLA.out]; simp [ints]
  have hcy : ys[n']? = some (.int .i64 9) := by
    rw [← Array.getElem?_toList, hys, ints_append, List.getElem?_append_right (by rw [ints_length, HLB.out]; omega), ints_length, HLB.out]; simp [ints]
  have hsx : xs.size = n + 3 := by rw [← Array.length_toList, hxs, ints_length, List.length_append, HLA.out]; rfl
  have hsy : ys.size = n' + 3 := by rw [← Array.length_toList, hys, ints_length, List.length_append, HLB.out]; rfl
  have HCX := Lib.hid hcx
  have HCY := Lib.hid hcy
  have HSX := Lib.hid hsx
  have HSY := Lib.hid hsy
  clear hxs hys hcx hcy hsx hsy
  go_wp2_with fail
  refine (merge_any _ _ _ _ _ _ a b _ _ _ hzs hzs' (Nat.le_refl _) (Nat.le_refl _)).mono ?_
  rintro e w3 ⟨M, cm, rfl, hm, hb3⟩
  have hlm : (mergeV a b).length ≤ 120 := by
    unfold mergeV
    split
    · rename_i h
      rw [List.length_zipWith]
      have := (check_01 (mergeE_zero.1 h).1).1
      omega
    · simp
  have sm : Small (mergeV a b).length := by unfold Small; omega
  generalize mergeV a b = v at *
  generalize mergeE a b = er at *
  have hgy : g' < w2.heap.size := hy.lt
  replace hx := hx.below hb3 (by omega)
  replace hy := hy.below hb3 hgy
  replace hzs := hzs.on hb3 (Nat.le_refl _)
  replace hzs' := hzs'.on hb3 (Nat.le_refl _)
  have hw3 : Below w.heap.size w w3 := Below.trans (by repeat (first | exact Below.refl _ _ | assumption | refine Below.drew ?_ | refine below_drewN ?_ _ | refine Below.alloc ?_ (by first | omega | (simp; omega) | simp) _)) (hb3.mono (by first | omega | (simp; omega) | simp)); have hzw3 := hw3.size; clear hb3
  clear hlm
  go_wp2_with fail
  refine (equal_yes _ _ _ _ _ _ _ _ _ _ _ hzs (ha.below hw3) sn rfl).mono ?_
  rintro e w4 ⟨rfl, hb4⟩
  replace hx := hx.below hb4 (by have := hx.lt; omega)
  replace hy := hy.below hb4 (by have := hy.lt; omega)
  replace hm := own_below hm hb4
  replace hzs' := hzs'.on hb4 (Nat.le_refl _)
  have hw4 : Below w.heap.size w w4 := Below.trans (by repeat (first | exact Below.refl _ _ | assumption | refine Below.drew ?_ | refine below_drewN ?_ _ | refine Below.alloc ?_ (by first | omega | (simp; omega) | simp) _)) (hb4.mono (by first | omega | (simp; omega) | simp)); have hzw4 := hw4.size; clear hb4
  clear hzs
  go_wp2_with fail
  refine (equal_yes _ _ _ _ _ _ _ _ _ _ _ hzs' (hb.below hw4) sn' rfl).mono ?_
  rintro e w5 ⟨rfl, hb5⟩
  replace hx := hx.below hb5 (by have := hx.lt; omega)
  replace hy := hy.below hb5 (by have := hy.lt; omega)
  replace hm := own_below hm hb5
  have hw5 : Below w.heap.size w w5 := Below.trans (by repeat (first | exact Below.refl _ _ | assumption | refine Below.drew ?_ | refine below_drewN ?_ _ | refine Below.alloc ?_ (by first | omega | (simp; omega) | simp) _)) (hb5.mono (by first | omega | (simp; omega) | simp)); have hzw5 := hw5.size; clear hb5
  clear hzs'
  have h5x := hx.lt
  have h5y := hy.lt
  have hcx := hx.cell n
  rw [HCX.out] at hcx
  have hcy := hy.cell n'
  rw [HCY.out] at hcy
  unfold Small at sn sn'
  go_wp2_with fail
  have hmn : M = none → cm = 0 := by
    rintro rfl
    rcases hm.2 with ⟨h, _⟩ | ⟨_, _, _, h, _⟩
    · injection h
    · injection h with h; cases h
  refine (clone_any _ _ _ v _ _ (Reads.of_own hm) (Nat.le_refl _) hmn sm).mono ?_
  rintro e w6 ⟨V, cv, rfl, hv, hb6⟩
  replace hx := hx.below hb6 (by have := hx.lt; omega)
  replace hy := hy.below hb6 (by have := hy.lt; omega)
  replace hm := own_below hm hb6
  have hw6 : Below w.heap.size w w6 := Below.trans (by repeat (first | exact Below.refl _ _ | assumption | refine Below.drew ?_ | refine below_drewN ?_ _ | refine Below.alloc ?_ (by first | omega | (simp; omega) | simp) _)) (hb6.mono (by first | omega | (simp; omega) | simp)); have hzw6 := hw6.size; clear hb6
  clear hcx hcy
  go_wp2_with fail
  refine (spoil_any g n (n + 3) xs 7 w.heap.size w _ hx HSX.out (by omega) hw6 hg).mono ?_
  rintro e w7 ⟨rfl, hw7, ⟨_, _⟩, hgr7⟩
  replace hy := hy.grown hgr7 (by intro h; injection h; omega)
  replace hm := own_far hm hgr7 (by omega)
  replace hv := own_far hv hgr7 (by omega)
  have hzw7 := hw7.size
  clear hx hgr7
  go_wp2_with fail
  refine (spoil_any g' n' (n' + 3) ys 7 w.heap.size w _ hy HSY.out (by omega) hw7 (by omega)).mono ?_
  rintro e w8 ⟨rfl, hw8, ⟨_, _⟩, hgr8⟩
  replace hm := own_far hm hgr8 (by omega)
  replace hv := own_far hv hgr8 (by omega)
  have hzw8 := hw8.size
  clear hy hgr8 h5x h5y
  go_wp2_with fail
  refine (merge_yes _ _ _ _ _ _ [1] [2] [3] 1 (w8.heap.size + 2) (w8.heap.size + 2) _ ?_ ?_ (by simp) (by simp) (by decide +kernel) (by decide +kernel) rfl).mono ?_
  · exact reads_block ((blk_at rfl).alloc _) rfl rfl (by omega)
  · exact reads_block (blk_at (by simp)) rfl rfl (by omega)
  rintro e w9 ⟨L, cl, rfl, hl, hb9⟩
  have hm' := (((Reads.of_own hm).alloc_on _).alloc_on _).on hb9 (Nat.le_refl _)
  have hv' := (((Reads.of_own hv).alloc_on _).alloc_on _).on hb9 (Nat.le_refl _)
  have hw9 : Below w.heap.size w w9 := Below.trans (by repeat (first | exact Below.refl _ _ | assumption | refine Below.drew ?_ | refine below_drewN ?_ _ | refine Below.alloc ?_ (by first | omega | (simp; omega) | simp) _)) (hb9.mono (by first | omega | (simp; omega) | simp)); have hzw9 := hw9.size; clear hb9
  clear hm hv
  go_wp2_with fail
  refine (equal_yes _ _ _ _ _ _ _ _ _ _ _ hm' hv' sm rfl).mono ?_
  rintro e w10 ⟨rfl, hb10⟩
  replace hl := hl.on hb10 (Nat.le_refl _)
  have hw10 : Below w.heap.size w w10 := Below.trans (by repeat (first | exact Below.refl _ _ | assumption | refine Below.drew ?_ | refine below_drewN ?_ _ | refine Below.alloc ?_ (by first | omega | (simp; omega) | simp) _)) (hb10.mono (by first | omega | (simp; omega) | simp)); have hzw10 := hw10.size; clear hb10
  clear hm' hv'
  go_wp2_with fail
  refine (equal_yes _ _ _ _ _ _ [3] [3] _ (w10.heap.size + 1) _ (hl.alloc_on _) (reads_block (blk_at rfl) rfl rfl (by omega)) (by unfold Small; simp) rfl).mono ?_
  rintro e w11 ⟨rfl, hb11⟩
  have hw11 : Below w.heap.size w w11 := Below.trans (by repeat (first | exact Below.refl _ _ | assumption | refine Below.drew ?_ | refine below_drewN ?_ _ | refine Below.alloc ?_ (by first | omega | (simp; omega) | simp) _)) (hb11.mono (by first | omega | (simp; omega) | simp)); have hzw11 := hw11.size; clear hb11
  go_wp2
  go_ret
  exact ⟨rfl, hw11⟩
end Go.Proofs.Ytkoenjnjkapfmaa
