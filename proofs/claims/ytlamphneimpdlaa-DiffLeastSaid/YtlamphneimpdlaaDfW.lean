/- The walk of the law DiffLeast. -/
import Derived.Test.YtlamphneimpdlaaDfP
namespace Go.Proofs.Ytlamphneimpdlaa
open Go.RowKit

set_option maxRecDepth 100000 in
set_option maxHeartbeats 8000000 in
theorem walk_DiffLeast {g h : List Rl} {A A' : Option Addr} {cp cp' : Nat} {row row' : Nat → List Value} (a : ByteArray) (n : Int) (w : World) (hg : GrIs w w.heap.size g A cp row) (hwg : ∀ r ∈ g, WfE r.2) (hh : GrIs w w.heap.size h A' cp' row') (hwh : ∀ r ∈ h, WfE r.2) :
    Calls Try.prog 6 #[.agg #[.slice A g.length cp], .agg #[.slice A' h.length cp'], .string a, .int .i64 n] w fun e w' => e = .returned (.bool true) ∧ Below w.heap.size w w' := by
  have hlit := lit_b
  have hone1 := fun W => one_b (litE ⟨#[120]⟩) _ W (litE_is W ⟨#[120]⟩ (by decide))
  have hone2 := fun W => one_b (litE ⟨#[121]⟩) _ W (litE_is W ⟨#[121]⟩ (by decide))
  have hw1 := fun W (hW : Below w.heap.size w W) (a' : ByteArray) (k : Nat) (ha : a'.size ≤ 140737488351232) (hk : k ≤ 6) => whole_any (hg.grow hW) hwg a' k ha hk
  have hw2 := fun W (hW : Below w.heap.size w W) (a' : ByteArray) (k : Nat) (ha : a'.size ≤ 140737488351232) (hk : k ≤ 6) => whole_any (hh.grow hW) hwh a' k ha hk
  have hd1 := fun W (hW : Below w.heap.size w W) (a' : ByteArray) (k : Nat) (ha : a'.size ≤ 140737488351232) (hk : k ≤ 6) => least_any (hg.grow hW) hwg (hh.grow hW) hwh a' k ha ⟨by omega, by omega⟩
  have hd2 := fun W (hW : Below w.heap.size w W) (a' : ByteArray) (k : Nat) (ha : a'.size ≤ 140737488351232) (hk : k ≤ 6) => least_any (hh.grow hW) hwh (hg.grow hW) hwg a' k ha ⟨by omega, by omega⟩
  have hsm := fun W => small_any a n W
  have hk5 : wiN n 5 < 5 := wiN_lt n (by decide)
  have hsz := smA_size a
  obtain ⟨a', ha'⟩ : ∃ a', smA a = a' := ⟨_, rfl⟩
  obtain ⟨k, hk⟩ : ∃ k, wiN n 5 = k := ⟨_, rfl⟩
  rw [ha', hk] at hsm
  rw [hk] at hk5
  rw [ha'] at hsz
  unfold exCells at hlit hone1 hone2
  have HW1 := Lib.hid hw1
  have HW2 := Lib.hid hw2
  have HD1 := Lib.hid hd1
  have HD2 := Lib.hid hd2
  have HSM := Lib.hid hsm
  have HL := Lib.hid hlit
  have HO1 := Lib.hid hone1
  have HO2 := Lib.hid hone2
  clear hw1 hw2 hd1 hd2 hsm hlit hone1 hone2 hg hh hwg hwh ha' hk
  go_enter Try.func6, Try.ntmps6
  go_wp2_with fail
  refine (HL.out ⟨#[120]⟩ _).mono ?_
  rintro e w1 ⟨rfl, hb1⟩
  have hgx : Blk w1 w.heap.size 24 #[.slice A g.length cp] := ((blk_at rfl).alloc _).below hb1 (by first | omega | (simp; omega) | simp)
  have hhx : Blk w1 (w.heap.size + 1) 24 #[.slice A' h.length cp'] := (blk_at (by simp)).below hb1 (by first | omega | (simp; omega) | simp)
  have hw1 : Below w.heap.size w w1 := (((Below.refl _ w).alloc (Nat.le_refl _) _).alloc (by first | omega | (simp; omega) | simp) _).trans (hb1.mono (by first | omega | (simp; omega) | simp))
  clear hb1
  go_wp2_with fail
  refine (HO1.out _).mono ?_
  rintro e w2 ⟨b1, rfl, hG1, hb2⟩
  replace hgx := hgx.below hb2 hgx.lt
  replace hhx := hhx.below hb2 hhx.lt
  replace hw1 := hw1.trans (hb2.mono hw1.size)
  clear hb2
  go_wp2_with fail
  refine (HL.out ⟨#[121]⟩ _).mono ?_
  rintro e w3 ⟨rfl, hb3⟩
  replace hgx := hgx.below hb3 hgx.lt
  replace hhx := hhx.below hb3 hhx.lt
  replace hw1 := hw1.trans (hb3.mono hw1.size)
  replace hG1 := (hG1.on hb3).more hb3.size
  clear hb3
  go_wp2_with fail
  refine (HO2.out _).mono ?_
  rintro e w4 ⟨b2, rfl, hG2, hb4⟩
  replace hgx := hgx.below hb4 hgx.lt
  replace hhx := hhx.below hb4 hhx.lt
  replace hw1 := hw1.trans (hb4.mono hw1.size)
  replace hG1 := (hG1.on hb4).more hb4.size
  clear hb4
  have hst := least_any hG1 (wf_g1 (wf_lit _)) hG2 (wf_g1 (wf_lit _)) ⟨#[120, 121]⟩ 1 (by decide) ⟨by decide, by decide⟩
  have HST := Lib.hid hst
  clear hst hG1 hG2
  go_wp2_with fail
  refine HST.out.mono ?_
  rintro e w5 ⟨hb5, hq⟩
  replace hgx := hgx.below hb5 hgx.lt
  replace hhx := hhx.below hb5 hhx.lt
  replace hw1 := hw1.trans (hb5.mono hw1.size)
  clear hb5 HST
  rcases hq with ⟨hbad, _⟩ | ⟨_, hbad, _⟩ | ⟨_, jx, sx, hx1, hx2, hx3, rfl⟩
  · exact absurd ⟨xy_look1, xy_look2⟩ hbad
  · exact absurd hbad x_y_not
  obtain ⟨rfl, hx4⟩ := x_y_least hx1 hx2 hx3
  have hx5 : (if accG [(nameA, litE ⟨#[120]⟩)] ⟨#[120]⟩ = true then (1 : Int) else 2) = 1 := if_pos hx4
  rw [hx5]
  clear hx1 hx2 hx3 hx4 hx5
  have g0 : w5.cell? ⟨w.heap.size, 0, none⟩ = some (.slice A g.length cp) := hgx.cell 0
  have g1 : w5.cell? ⟨w.heap.size + 1, 0, none⟩ = some (.slice A' h.length cp') := hhx.cell 0
  go_wp2_with fail
  refine (HSM.out _).mono ?_
  rintro e w6 ⟨rfl, hb6⟩
  replace hgx := hgx.below hb6 hgx.lt
  replace hhx := hhx.below hb6 hhx.lt
  replace hw1 := hw1.trans (hb6.mono hw1.size)
  clear hb6 g0 g1
  have g0 : w6.cell? ⟨w.heap.size, 0, none⟩ = some (.slice A g.length cp) := hgx.cell 0
  have g1 : w6.cell? ⟨w.heap.size + 1, 0, none⟩ = some (.slice A' h.length cp') := hhx.cell 0
  go_wp2_with fail
  refine (HD1.out _ hw1 a' k (by omega) (by omega)).mono ?_
  rintro e w7 ⟨hb7, hq1⟩
  replace hgx := hgx.below hb7 hgx.lt
  replace hhx := hhx.below hb7 hhx.lt
  replace hw1 := hw1.trans (hb7.mono hw1.size)
  clear hb7 g0 g1
  have g0 : w7.cell? ⟨w.heap.size, 0, none⟩ = some (.slice A g.length cp) := hgx.cell 0
  have g1 : w7.cell? ⟨w.heap.size + 1, 0, none⟩ = some (.slice A' h.length cp') := hhx.cell 0
  rcases hq1 with ⟨hno, x, hx0, rfl⟩ | ⟨hyes, hall, rfl⟩ | ⟨hyes, j, s, hj, hpre, hps, rfl⟩
  · have hxb : (x != 0) = true := bne_iff_ne.2 hx0
    go_wp2_with fail
    refine (HD2.out _ hw1 a' k (by omega) (by omega)).mono ?_
    rintro e w8 ⟨hb8, hq2⟩
    replace hgx := hgx.below hb8 hgx.lt
    replace hhx := hhx.below hb8 hhx.lt
    replace hw1 := hw1.trans (hb8.mono hw1.size)
    clear hb8 g0 g1
    have g0 : w8.cell? ⟨w.heap.size, 0, none⟩ = some (.slice A g.length cp) := hgx.cell 0
    have g1 : w8.cell? ⟨w.heap.size + 1, 0, none⟩ = some (.slice A' h.length cp') := hhx.cell 0
    rcases hq2 with ⟨_, y, hy0, rfl⟩ | ⟨hyes, _⟩ | ⟨hyes, _⟩
    rotate_left
    · exact absurd (nothing_least.1 hyes) hno
    · exact absurd (nothing_least.1 hyes) hno
    have hyb : (y != 0) = true := bne_iff_ne.2 hy0
    go_wp2_with fail
    refine (HW1.out _ hw1 a' k (by omega) (by omega)).mono ?_
    rintro e w9 ⟨hb9, hq3⟩
    replace hgx := hgx.below hb9 hgx.lt
    replace hhx := hhx.below hb9 hhx.lt
    replace hw1 := hw1.trans (hb9.mono hw1.size)
    clear hb9 g0 g1
    have g1 : w9.cell? ⟨w.heap.size + 1, 0, none⟩ = some (.slice A' h.length cp') := hhx.cell 0
    rcases hq3 with ⟨_, z, hz0, _, rfl⟩ | ⟨hgl, V, c, l, _, rfl, _⟩
    · have hzb : (z != 0) = true := bne_iff_ne.2 hz0
      go_wp2_with fail
      refine (HW2.out _ hw1 a' k (by omega) (by omega)).mono ?_
      rintro e w10 ⟨hb10, hq4⟩
      replace hw1 := hw1.trans (hb10.mono hw1.size)
      clear hb10
      rcases hq4 with ⟨_, u, hu0, _, rfl⟩ | ⟨_, V, c, l, _, rfl, _⟩
      · clear hno hx0 hy0 hz0 hu0
        go_wp2
        go_ret
        exact ⟨rfl, hw1⟩
      · clear hno hx0 hy0 hz0
        go_wp2
        go_ret
        exact ⟨rfl, hw1⟩
    · go_wp2_with fail
      refine (HW2.out _ hw1 a' k (by omega) (by omega)).mono ?_
      rintro e w10 ⟨hb10, hq4⟩
      replace hw1 := hw1.trans (hb10.mono hw1.size)
      clear hb10
      rcases hq4 with ⟨_, u, hu0, _, rfl⟩ | ⟨hhl, _⟩
      · have hub : (u != 0) = true := bne_iff_ne.2 hu0
        clear hno hx0 hy0 hu0
        go_wp2
        go_ret
        exact ⟨rfl, hw1⟩
      · exact absurd ⟨hgl, hhl⟩ hno
  · simp only [Int.toNat_natCast] at hall
    go_wp2_with fail
    refine (HD2.out _ hw1 a' k (by omega) (by omega)).mono ?_
    rintro e w8 ⟨hb8, hq2⟩
    replace hgx := hgx.below hb8 hgx.lt
    replace hhx := hhx.below hb8 hhx.lt
    replace hw1 := hw1.trans (hb8.mono hw1.size)
    clear hb8 g0 g1
    have g0 : w8.cell? ⟨w.heap.size, 0, none⟩ = some (.slice A g.length cp) := hgx.cell 0
    have g1 : w8.cell? ⟨w.heap.size + 1, 0, none⟩ = some (.slice A' h.length cp') := hhx.cell 0
    rcases hq2 with ⟨hno, _⟩ | ⟨_, _, rfl⟩ | ⟨_, j, s, hj, hpre, hps, _⟩
    · exact absurd (nothing_least.1 hyes) hno
    rotate_left
    · have := hall s (List.mem_of_getElem? (by simpa using hj))
      rw [this] at hps
      cases hb : accG h s <;> rw [hb] at hps <;> cases hps
    go_wp2_with fail
    refine (HW1.out _ hw1 a' k (by omega) (by omega)).mono ?_
    rintro e w9 ⟨hb9, hq3⟩
    replace hgx := hgx.below hb9 hgx.lt
    replace hhx := hhx.below hb9 hhx.lt
    replace hw1 := hw1.trans (hb9.mono hw1.size)
    clear hb9 g0 g1
    have g1 : w9.cell? ⟨w.heap.size + 1, 0, none⟩ = some (.slice A' h.length cp') := hhx.cell 0
    rcases hq3 with ⟨hbad, _⟩ | ⟨_, V1, c1, l1, hl1, rfl, hown1⟩
    · exact absurd hyes.1 hbad
    have hrd1 := Reads.of_own hown1
    have HL1 := Lib.hid hl1
    clear hown1 hl1
    go_wp2_with fail
    refine (HW2.out _ hw1 a' k (by omega) (by omega)).mono ?_
    rintro e w10 ⟨hb10, hq4⟩
    replace hw1 := hw1.trans (hb10.mono hw1.size)
    replace hrd1 := (hrd1.below hb10).more hb10.size
    clear hb10 hgx hhx g1
    rcases hq4 with ⟨hbad, _⟩ | ⟨_, V2, c2, l2, hl2, rfl, hown2⟩
    · exact absurd hyes.2 hbad
    have hrd2 := Reads.of_own hown2
    have hl1 := HL1.out
    clear HL1
    have hao := hyes.1.2.1
    have hlen3 : a'.data.toList.length = a'.size := size_list a'
    have hT5 : (textsL a'.data.toList [] k).length ≤ 5000 := by
      rw [textsL_len, rank_zero, hlen3]
      have h4 : shN a'.size (k + 1) ≤ shN a'.size 5 := shN_mono (by omega)
      have h5 : ∀ m : Fin 4, shN m.val 5 ≤ 5000 := by decide +kernel
      have h6 := h5 ⟨a'.size, by omega⟩
      simp only at h6
      omega
    have hn1 : l1.length ≤ 5000 := by
      rw [hl1]
      exact Nat.le_trans (List.length_filter_le _ _) hT5
    have hn2 : l2.length ≤ 5000 := by
      rw [hl2]
      exact Nat.le_trans (List.length_filter_le _ _) hT5
    clear hown2 HW1 HW2 HD1 HD2 HSM HL HO1 HO2
    have hle : l1 = l2 := by rw [hl1, hl2]; exact filter_eq hall
    have heq := equalS_any V1 V2 l1.length c1 l2.length c2 l1 l2 _ _ w10 hrd1 hrd2 (by omega) (by omega)
    rw [decide_eq_true hle] at heq
    have HE := Lib.hid heq
    clear heq hle hl1 hl2 hall hyes hrd1 hrd2
    go_wp2_with fail
    refine HE.out.mono ?_
    rintro e w11 ⟨rfl, d, rfl⟩
    go_wp2
    go_ret
    exact ⟨rfl, (by repeat (first | exact Below.refl _ _ | assumption | refine Below.drew ?_ | refine below_drewN ?_ _ | refine Below.alloc ?_ (by first | omega | (simp; omega) | simp) _ | refine Below.setCell ?_ (by first | omega | (simp; omega) | simp) _))⟩
  · simp only [Int.toNat_natCast] at hj hpre
    obtain ⟨v1, hv1⟩ : ∃ v1 : Int, (if accG g s = true then (1 : Int) else 2) = v1 := ⟨_, rfl⟩
    rw [hv1]
    go_wp2_with fail
    refine (HD2.out _ hw1 a' k (by omega) (by omega)).mono ?_
    rintro e w8 ⟨hb8, hq2⟩
    replace hgx := hgx.below hb8 hgx.lt
    replace hhx := hhx.below hb8 hhx.lt
    replace hw1 := hw1.trans (hb8.mono hw1.size)
    clear hb8 g0 g1
    have g0 : w8.cell? ⟨w.heap.size, 0, none⟩ = some (.slice A g.length cp) := hgx.cell 0
    have g1 : w8.cell? ⟨w.heap.size + 1, 0, none⟩ = some (.slice A' h.length cp') := hhx.cell 0
    rcases hq2 with ⟨hno, _⟩ | ⟨_, hall, _⟩ | ⟨_, j', s', hj', hpre', hps', rfl⟩
    · exact absurd (nothing_least.1 hyes) hno
    · have := hall s (List.mem_of_getElem? (by simpa using hj))
      rw [this] at hps
      cases hb : accG g s <;> rw [hb] at hps <;> cases hps
    simp only [Int.toNat_natCast] at hj' hpre'
    obtain rfl : s' = s := part_one hj hpre hps hj' hpre' hps'
    obtain ⟨v2, hv2⟩ : ∃ v2 : Int, (if accG h s' = true then (1 : Int) else 2) = v2 := ⟨_, rfl⟩
    rw [hv2]
    clear hj' hpre' hps'
    go_wp2_with fail
    refine (HW1.out _ hw1 a' k (by omega) (by omega)).mono ?_
    rintro e w9 ⟨hb9, hq3⟩
    replace hgx := hgx.below hb9 hgx.lt
    replace hhx := hhx.below hb9 hhx.lt
    replace hw1 := hw1.trans (hb9.mono hw1.size)
    clear hb9 g0 g1
    have g1 : w9.cell? ⟨w.heap.size + 1, 0, none⟩ = some (.slice A' h.length cp') := hhx.cell 0
    rcases hq3 with ⟨hbad, _⟩ | ⟨_, V1, c1, l1, hl1, rfl, hown1⟩
    · exact absurd hyes.1 hbad
    have hrd1 := Reads.of_own hown1
    have HL1 := Lib.hid hl1
    clear hown1 hl1
    go_wp2_with fail
    refine (HW2.out _ hw1 a' k (by omega) (by omega)).mono ?_
    rintro e w10 ⟨hb10, hq4⟩
    replace hw1 := hw1.trans (hb10.mono hw1.size)
    replace hrd1 := (hrd1.below hb10).more hb10.size
    clear hb10 hgx hhx g1
    rcases hq4 with ⟨hbad, _⟩ | ⟨_, V2, c2, l2, hl2, rfl, hown2⟩
    · exact absurd hyes.2 hbad
    have hrd2 := Reads.of_own hown2
    have hl1 := HL1.out
    clear HL1
    have hao := hyes.1.2.1
    have hlen3 : a'.data.toList.length = a'.size := size_list a'
    have hT5 : (textsL a'.data.toList [] k).length ≤ 5000 := by
      rw [textsL_len, rank_zero, hlen3]
      have h4 : shN a'.size (k + 1) ≤ shN a'.size 5 := shN_mono (by omega)
      have h5 : ∀ m : Fin 4, shN m.val 5 ≤ 5000 := by decide +kernel
      have h6 := h5 ⟨a'.size, by omega⟩
      simp only at h6
      omega
    have hn1 : l1.length ≤ 5000 := by
      rw [hl1]
      exact Nat.le_trans (List.length_filter_le _ _) hT5
    have hn2 : l2.length ≤ 5000 := by
      rw [hl2]
      exact Nat.le_trans (List.length_filter_le _ _) hT5
    clear hown2 HW1 HW2 HD1 HD2 HSM HL HO1 HO2
    obtain ⟨T, hT⟩ : ∃ T, textsL a'.data.toList [] k = T := ⟨_, rfl⟩
    have hsort := textsL_sorted (s := []) (n := k) hao (by omega)
    have hmT : ∀ u, u ∈ T → OverOk a'.data.toList u.data.toList := fun u hu => by rw [← hT, mem_textsL hao (by omega)] at hu; exact hu.1
    unfold allL at hl1 hl2
    rw [hT] at hj hpre hl1 hl2 hsort
    have hsT := part_mem hj
    have hso := hmT s' hsT
    have hf1 := part_filter T (accG g) j
    have hf2 := part_filter T (accG h) j
    rw [part_same hpre] at hf2
    rw [← hl1] at hf1
    rw [← hl2] at hf2
    obtain ⟨P, hP⟩ : ∃ P, (T.take j).filter (accG g) = P := ⟨_, rfl⟩
    rw [hP] at hf1 hf2
    have hge1 : ∀ i x, l1[i]? = some x → P.length ≤ i → lessB x s' = false := fun i x hx hi => by
      rw [hf1, List.getElem?_append_right hi] at hx
      have hm := List.mem_filter.1 (List.mem_of_getElem? hx)
      rw [less_rank (hmT x (List.mem_of_mem_drop hm.1)) hso, decide_eq_false_iff_not]
      have := drop_ge hsort hj hm.1
      omega
    have hge2 : ∀ i x, l2[i]? = some x → P.length ≤ i → lessB x s' = false := fun i x hx hi => by
      rw [hf2, List.getElem?_append_right hi] at hx
      have hm := List.mem_filter.1 (List.mem_of_getElem? hx)
      rw [less_rank (hmT x (List.mem_of_mem_drop hm.1)) hso, decide_eq_false_iff_not]
      have := drop_ge hsort hj hm.1
      omega
    have hcom : ∀ i, i < P.length → ∃ x, l1[i]? = some x ∧ l2[i]? = some x := fun i hi => ⟨P[i], by rw [hf1, List.getElem?_append_left hi, List.getElem?_eq_getElem hi], by rw [hf2, List.getElem?_append_left hi, List.getElem?_eq_getElem hi]⟩
    have hin : decide (s' ∈ l1) = accG g s' := by rw [hl1, Bool.eq_iff_iff, decide_eq_true_iff, List.mem_filter]; exact ⟨fun h => h.2, fun h => ⟨hsT, h⟩⟩
    have hout : decide (s' ∈ l2) = (!accG g s') := by rw [← hps, hl2, Bool.eq_iff_iff, decide_eq_true_iff, List.mem_filter]; exact ⟨fun h => h.2, fun h => ⟨hsT, h⟩⟩
    have hct1 := fun W (hW : Below w10.heap.size w10 W) => containsS_any V1 l1.length c1 l1 _ s' W (hrd1.below hW) (by omega)
    have hct2 := fun W (hW : Below w10.heap.size w10 W) => containsS_any V2 l2.length c2 l2 _ s' W (hrd2.below hW) (by omega)
    rw [hin] at hct1
    rw [hout] at hct2
    rw [hps] at hv2
    obtain ⟨hv3, hv4⟩ : (v1 == 1) = accG g s' ∧ v1 + v2 = 3 := by rw [← hv1, ← hv2]; cases accG g s' <;> exact ⟨rfl, rfl⟩
    have HG1 := Lib.hid hge1
    have HG2 := Lib.hid hge2
    have HCM := Lib.hid hcom
    have HR1 := Lib.hid hrd1
    have HR2 := Lib.hid hrd2
    have HC1 := Lib.hid hct1
    have HC2 := Lib.hid hct2
    clear hv1 hv2
    generalize accG g s' = ps at HC1 HC2 hv3
    clear hge1 hge2 hcom hrd1 hrd2 hct1 hct2 hin hout hf1 hf2 hP hsT hso hmT hsort hl1 hl2 hj hpre hps hyes hao hT
    have hw34 : IntKind.i64.wrap (v1 + v2) = 3 := by rw [hv4]; rfl
    have hl1n : l1.length ≤ 4611686018427387904 := by omega
    have hll : ∀ a b W, Calls Try.prog 32 #[.string a, .string b] W fun e w' => e = .returned (.bool (lessB a b)) ∧ Below W.heap.size W w' := fun a b W => less_any a b W
    have HLS := Lib.hid hll
    clear hll hv4
    go_wp2
    go_loopw [22] (fun x wr => ∃ i d : Nat, i ≤ l1.length ∧ i ≤ l2.length ∧ x = .int .i64 i ∧ wr = w10.drewN d) (fun x _ => l1.length - (intOf x).toNat)
    case atStart => exact ⟨0, 0, by omega, by omega, rfl, rfl⟩
    case round =>
      obtain ⟨i, d, hi1, hi2, rfl, rfl⟩ := hrel
      by_cases hil1 : i < l1.length
      · obtain ⟨ad1, x1, hA1, hab1, hg1, e1⟩ := reads_str HR1.out hil1
        subst hA1
        have ha1 : (ad1.add i).block < w10.heap.size := by rw [add_block]; exact hab1
        have hil1i : (i : Int) < (l1.length : Int) := by omega
        have hge1i : ((l1.length : Int) ≤ (i : Int)) = False := by simp; omega
        by_cases hil2 : i < l2.length
        · obtain ⟨ad2, x2, hA2, hab2, hg2, e2⟩ := reads_str HR2.out hil2
          subst hA2
          have ha2 : (ad2.add i).block < w10.heap.size := by rw [add_block]; exact hab2
          have hil2i : (i : Int) < (l2.length : Int) := by omega
          have hge2i : ((l2.length : Int) ≤ (i : Int)) = False := by simp; omega
          have hq := toList_eq_iff x1 x2
          by_cases heq : x1.data.toList = x2.data.toList
          · rw [decide_eq_true heq] at hq
            clear hg1 hg2 heq
            go_wp2
            go_quiet (fail)
            go_wp2
            go_roundw
            case rel => exact ⟨i + 1, _, by omega, by omega, by go_num, rfl⟩
            case measure => simp [intOf]; omega
          · have hPi : P.length ≤ i := by
              rcases Nat.lt_or_ge i P.length with hx | hx
              · obtain ⟨x, h1, h2⟩ := HCM.out i hx
                rw [hg1] at h1
                rw [hg2] at h2
                injection h1 with h1
                injection h2 with h2
                exact absurd (by rw [h1, h2]) heq
              · exact hx
            have hn1 := HG1.out i x1 hg1 hPi
            have hn2 := HG2.out i x2 hg2 hPi
            rw [decide_eq_false heq] at hq
            have hls1 := fun W => HLS.out x1 s' W
            have hls2 := fun W => HLS.out x2 s' W
            rw [hn1] at hls1
            rw [hn2] at hls2
            have HL1 := Lib.hid hls1
            have HL2 := Lib.hid hls2
            clear hg1 hg2 heq hPi hn1 hn2 hls1 hls2 HLS
            go_wp2
            go_quiet (fail)
            go_wp2_with fail
            refine (HC1.out _ (by repeat (first | exact Below.refl _ _ | assumption | refine Below.drew ?_ | refine below_drewN ?_ _ | refine Below.alloc ?_ (by first | omega | (simp; omega) | simp) _ | refine Below.setCell ?_ (by first | omega | (simp; omega) | simp) _))).mono ?_
            rintro e w11 ⟨rfl, d1, rfl⟩
            go_wp2_with fail
            refine (HC2.out _ (by repeat (first | exact Below.refl _ _ | assumption | refine Below.drew ?_ | refine below_drewN ?_ _ | refine Below.alloc ?_ (by first | omega | (simp; omega) | simp) _ | refine Below.setCell ?_ (by first | omega | (simp; omega) | simp) _))).mono ?_
            rintro e w12 ⟨rfl, d2, rfl⟩
            have hps1 : (ps != !ps) = true := by cases ps <;> rfl
            go_wp2_with fail
            refine HL1.out _ |>.mono ?_
            rintro e w13 ⟨rfl, hb13⟩
            have hw13 : Below w.heap.size w w13 := Below.trans (by repeat (first | exact Below.refl _ _ | assumption | refine Below.drew ?_ | refine below_drewN ?_ _ | refine Below.alloc ?_ (by first | omega | (simp; omega) | simp) _ | refine Below.setCell ?_ (by first | omega | (simp; omega) | simp) _)) (hb13.mono (by have := hw1.size; simpa using this))
            have e2' := (hb13.cell (p := ad2.add i) (by simpa using ha2)).trans e2
            clear hb13 e1 e2
            go_wp2_with fail
            refine (HL2.out _).mono ?_
            rintro e w14 ⟨rfl, hb14⟩
            have hw14 := hw13.trans (hb14.mono hw13.size)
            go_wp2
            go_ret
            exact ⟨by simp, hw14⟩
        · have hlt2 : ((i : Int) < (l2.length : Int)) = False := by simp; omega
          have hge2i : (l2.length : Int) ≤ (i : Int) := by omega
          have hPi : P.length ≤ i := by
            rcases Nat.lt_or_ge i P.length with hx | hx
            · obtain ⟨x, h1, h2⟩ := HCM.out i hx
              exact absurd (getElem?_lt h2) hil2
            · exact hx
          have hn1 := HG1.out i x1 hg1 hPi
          have hls1 := fun W => HLS.out x1 s' W
          rw [hn1] at hls1
          have HL1 := Lib.hid hls1
          clear hg1 hPi hn1 hls1 HLS
          go_wp2
          go_quiet (fail)
          go_wp2_with fail
          refine (HC1.out _ (by repeat (first | exact Below.refl _ _ | assumption | refine Below.drew ?_ | refine below_drewN ?_ _ | refine Below.alloc ?_ (by first | omega | (simp; omega) | simp) _ | refine Below.setCell ?_ (by first | omega | (simp; omega) | simp) _))).mono ?_
          rintro e w11 ⟨rfl, d1, rfl⟩
          go_wp2_with fail
          refine (HC2.out _ (by repeat (first | exact Below.refl _ _ | assumption | refine Below.drew ?_ | refine below_drewN ?_ _ | refine Below.alloc ?_ (by first | omega | (simp; omega) | simp) _ | refine Below.setCell ?_ (by first | omega | (simp; omega) | simp) _))).mono ?_
          rintro e w12 ⟨rfl, d2, rfl⟩
          have hps1 : (ps != !ps) = true := by cases ps <;> rfl
          go_wp2_with fail
          refine (HL1.out _).mono ?_
          rintro e w13 ⟨rfl, hb13⟩
          have hw13 : Below w.heap.size w w13 := Below.trans (by repeat (first | exact Below.refl _ _ | assumption | refine Below.drew ?_ | refine below_drewN ?_ _ | refine Below.alloc ?_ (by first | omega | (simp; omega) | simp) _ | refine Below.setCell ?_ (by first | omega | (simp; omega) | simp) _)) (hb13.mono (by have := hw1.size; simpa using this))
          go_wp2
          go_ret
          exact ⟨by simp, hw13⟩
      · have hlt1 : ((i : Int) < (l1.length : Int)) = False := by simp; omega
        have hge1i : (l1.length : Int) ≤ (i : Int) := by omega
        have hPi : P.length ≤ i := by
          rcases Nat.lt_or_ge i P.length with hx | hx
          · obtain ⟨x, h1, h2⟩ := HCM.out i hx
            exact absurd (getElem?_lt h1) hil1
          · exact hx
        by_cases hil2 : i < l2.length
        · obtain ⟨ad2, x2, hA2, hab2, hg2, e2⟩ := reads_str HR2.out hil2
          subst hA2
          have ha2 : (ad2.add i).block < w10.heap.size := by rw [add_block]; exact hab2
          have hil2i : (i : Int) < (l2.length : Int) := by omega
          have hge2i : ((l2.length : Int) ≤ (i : Int)) = False := by simp; omega
          have hn2 := HG2.out i x2 hg2 hPi
          have hls2 := fun W => HLS.out x2 s' W
          rw [hn2] at hls2
          have HL2 := Lib.hid hls2
          clear hg2 hPi hn2 hls2 HLS
          go_wp2
          go_quiet (fail)
          go_wp2_with fail
          refine (HC1.out _ (by repeat (first | exact Below.refl _ _ | assumption | refine Below.drew ?_ | refine below_drewN ?_ _ | refine Below.alloc ?_ (by first | omega | (simp; omega) | simp) _ | refine Below.setCell ?_ (by first | omega | (simp; omega) | simp) _))).mono ?_
          rintro e w11 ⟨rfl, d1, rfl⟩
          go_wp2_with fail
          refine (HC2.out _ (by repeat (first | exact Below.refl _ _ | assumption | refine Below.drew ?_ | refine below_drewN ?_ _ | refine Below.alloc ?_ (by first | omega | (simp; omega) | simp) _ | refine Below.setCell ?_ (by first | omega | (simp; omega) | simp) _))).mono ?_
          rintro e w12 ⟨rfl, d2, rfl⟩
          have hps1 : (ps != !ps) = true := by cases ps <;> rfl
          go_wp2_with fail
          refine (HL2.out _).mono ?_
          rintro e w13 ⟨rfl, hb13⟩
          have hw13 : Below w.heap.size w w13 := Below.trans (by repeat (first | exact Below.refl _ _ | assumption | refine Below.drew ?_ | refine below_drewN ?_ _ | refine Below.alloc ?_ (by first | omega | (simp; omega) | simp) _ | refine Below.setCell ?_ (by first | omega | (simp; omega) | simp) _)) (hb13.mono (by have := hw1.size; simpa using this))
          go_wp2
          go_ret
          exact ⟨by simp, hw13⟩
        · have hge2i : (l2.length : Int) ≤ (i : Int) := by omega
          clear hPi HLS
          go_wp2
          go_quiet (fail)
          go_wp2_with fail
          refine (HC1.out _ (by repeat (first | exact Below.refl _ _ | assumption | refine Below.drew ?_ | refine below_drewN ?_ _ | refine Below.alloc ?_ (by first | omega | (simp; omega) | simp) _ | refine Below.setCell ?_ (by first | omega | (simp; omega) | simp) _))).mono ?_
          rintro e w11 ⟨rfl, d1, rfl⟩
          go_wp2_with fail
          refine (HC2.out _ (by repeat (first | exact Below.refl _ _ | assumption | refine Below.drew ?_ | refine below_drewN ?_ _ | refine Below.alloc ?_ (by first | omega | (simp; omega) | simp) _ | refine Below.setCell ?_ (by first | omega | (simp; omega) | simp) _))).mono ?_
          rintro e w12 ⟨rfl, d2, rfl⟩
          have hps1 : (ps != !ps) = true := by cases ps <;> rfl
          go_wp2
          go_ret
          exact ⟨by simp, (by repeat (first | exact Below.refl _ _ | assumption | refine Below.drew ?_ | refine below_drewN ?_ _ | refine Below.alloc ?_ (by first | omega | (simp; omega) | simp) _ | refine Below.setCell ?_ (by first | omega | (simp; omega) | simp) _))⟩
end Go.Proofs.Ytlamphneimpdlaa
