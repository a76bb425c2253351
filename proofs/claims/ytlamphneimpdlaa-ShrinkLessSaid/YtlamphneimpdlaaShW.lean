/- The walk of the law ShrinkLess. -/
import Derived.Test.YtlamphneimpdlaaShD
import Derived.Test.YtlamphneimpdlaaLsH
import Derived.Test.YtlamphneimpdlaaLsW
namespace Go.Proofs.Ytlamphneimpdlaa
open Go.RowKit

theorem size_zero {t : ByteArray} (h : t.size = 0) : t = ⟨#[]⟩ := bytes_ext (List.eq_nil_of_length_eq_zero (by rw [size_list]; exact h))
theorem star_chk : shChk 1 starG [] = 0 := by decide +kernel
theorem star_pred (t : ByteArray) : predB 1 starG [] t = accG starG t := if_pos rfl
theorem star_sub {t : ByteArray} (h : t.data.toList.Sublist [120, 120]) : accG starG t = true := by
  have h0 : accG starG ⟨#[]⟩ = true := star_acc _ (by decide) (o := some 0) (by decide +kernel)
  have h1 : accG starG ⟨#[120]⟩ = true := star_acc _ (by decide) (o := some 1) (by decide +kernel)
  have h3 : accG starG ⟨#[120, 120]⟩ = true := star_acc _ (by decide) (o := some 2) (by decide +kernel)
  have h4 := h.length_le
  have h5 : ∀ x ∈ t.data.toList, x = 120 := fun x hx => by simpa using h.subset hx
  generalize hl : t.data.toList = l at h4 h5
  match l, h4, h5, hl with
  | [], _, _, hl => rw [bytes_ext (v := ⟨#[]⟩) hl]; exact h0
  | [a], _, h5, hl =>
    obtain rfl := h5 a (by simp)
    rw [bytes_ext (v := ⟨#[120]⟩) hl]; exact h1
  | [a, b], _, h5, hl =>
    obtain rfl := h5 a (by simp)
    obtain rfl := h5 b (by simp)
    rw [bytes_ext (v := ⟨#[120, 120]⟩) hl]; exact h3
  | a :: b :: c :: l, h4, _, _ => simp at h4
theorem star_shrunk {t : ByteArray} (h : t.data.toList.Sublist [120, 120]) (h2 : ∀ j, j < t.size → predB 1 starG [] (cutOut t j (j + 1)) = false) : t = ⟨#[]⟩ := by
  rcases Nat.eq_zero_or_pos t.size with hz | hz
  · exact size_zero hz
  · have h3 := h2 0 hz
    rw [star_pred, star_sub ((cutOut_sub (by omega)).trans h)] at h3
    cases h3
/-- what is left to find stands in what is left -/
theorem sub_step {x y : UInt8} {l m : List UInt8} (h : (x :: l).Sublist (y :: m)) : if y = x then l.Sublist m else (x :: l).Sublist m := by
  split
  · rename_i e
    subst e
    exact List.cons_sublist_cons.1 h
  · rename_i e
    rcases List.sublist_cons_iff.1 h with h | ⟨r, h1, h2⟩
    · exact h
    · injection h1 with h1 _
      exact absurd h1.symm e

set_option maxRecDepth 100000 in
set_option maxHeartbeats 8000000 in
theorem walk_ShrinkLess {g h : List Rl} {A A' : Option Addr} {cp cp' : Nat} {row row' : Nat → List Value} (k : Int) (s : ByteArray) (z : Int) (w : World) (hg : GrIs w w.heap.size g A cp row) (hwg : ∀ r ∈ g, WfE r.2) (hh : GrIs w w.heap.size h A' cp' row') (hwh : ∀ r ∈ h, WfE r.2) :
    Calls Try.prog 10 #[.agg #[.int .i64 k, .slice A g.length cp, .slice A' h.length cp'], .string s, .int .i64 z] w fun e w' => e = .returned (.bool true) ∧ Below w.heap.size w w' := by
  have hlit := lit_b ⟨#[120]⟩
  have hof := of_b
  have hone := fun (W : World) (b : Nat) (hb : Blk W b 35 (exCells 3 0 0 0 0 ⟨#[120]⟩ none 0 0).toArray) =>
    one_b (ofN 7 [litE ⟨#[120]⟩]) _ W (ex_one (litE_is W _ (by decide)) hb (by simp) 7)
  have hsh := fun W (hW : Below w.heap.size w W) => shrink_any (hg.grow hW) hwg (hh.grow hW) hwh k s
  have hho := fun W (hW : Below w.heap.size w W) (t : ByteArray) => holds_any (hg.grow hW) hwg (hh.grow hW) hwh k t
  have hwi := fun (n : Nat) (h1 : 0 < n) (h2 : n < 9223372036854775807) W => within_any z n h1 h2 W
  have HWI := Lib.hid hwi
  unfold exCells at hlit hof hone
  have HL := Lib.hid hlit
  have HF := Lib.hid hof
  have HO := Lib.hid hone
  have HSH := Lib.hid hsh
  have HHO := Lib.hid hho
  clear hlit hof hone hsh hho hwi hg hwg hh hwh
  go_enter Try.func10, Try.ntmps10
  go_wp2_with fail
  refine (HL.out _).mono ?_
  rintro e w1 ⟨rfl, hb1⟩
  have hpx : Blk w1 w.heap.size 81 #[.int .i64 k, .slice A g.length cp, .slice A' h.length cp'] := (blk_at rfl).below hb1 (by first | omega | (simp; omega) | simp)
  have hw1 : Below w.heap.size w w1 := ((Below.refl _ w).alloc (Nat.le_refl _) _).trans (hb1.mono (by first | omega | (simp; omega) | simp))
  have hz1 := hw1.size
  have hl1 := hpx.lt
  clear hb1
  go_wp2_with fail
  refine (HF.out _ _ _ _ _).mono ?_
  rintro e w2 ⟨rfl, hb2⟩
  have hkb := (blk_at (w := w1) (t := 35) (cs := #[.int .i64 3, .int .u64 0, .int .u64 0, .int .u64 0, .int .u64 0, .string ⟨#[120]⟩, .slice none 0 0]) rfl).below hb2 (by simp)
  replace hpx := (hpx.alloc _).below hb2 (by simp; omega)
  replace hw1 := (hw1.alloc hz1 _).trans (hb2.mono (by simp; omega))
  clear hb2 hz1 hl1
  go_wp2_with fail
  refine (HO.out _ _ hkb).mono ?_
  rintro e w3 ⟨b1, rfl, hG1, hb3⟩
  replace hpx := hpx.below hb3 hpx.lt
  replace hw1 := hw1.trans (hb3.mono hw1.size)
  clear hb3 hkb
  have hnil : GrIs w3 w3.heap.size [] none 0 (fun _ => []) := ⟨by simp, by unfold maxLen; omega, fun _ => rfl, fun h => by simp at h, fun i r h => by simp at h, fun i r h => by simp at h, fun i r ad h => by simp at h, fun i r ad h => by simp at h⟩
  have hs1 := shrink_any hG1 (wf_g1 (wf_of (by unfold I64; omega) (fun e he => by simp at he; rw [he]; exact wf_lit _))) hnil (fun r hr => by cases hr) 1 ⟨#[120, 120]⟩
  have HS1 := Lib.hid hs1
  clear hs1 hG1 hnil
  go_wp2_with fail
  refine HS1.out.mono ?_
  rintro e w4 ⟨hb4, hq⟩
  replace hpx := hpx.below hb4 hpx.lt
  replace hw1 := hw1.trans (hb4.mono hw1.size)
  clear hb4 HS1
  rcases hq with ⟨hbad, _⟩ | ⟨_, _, _, t0, rfl, ht1, _, ht2⟩
  · exact absurd ⟨star_chk, by decide, (star_pred _).trans (star_sub (List.Sublist.refl _))⟩ hbad
  obtain rfl := star_shrunk (by simpa using ht1) ht2
  have p0 : w4.cell? ⟨w.heap.size, 0, none⟩ = some (.int .i64 k) := hpx.cell 0
  have p1 : w4.cell? ⟨w.heap.size, 1, none⟩ = some (.slice A g.length cp) := hpx.cell 1
  have p2 : w4.cell? ⟨w.heap.size, 2, none⟩ = some (.slice A' h.length cp') := hpx.cell 2
  clear ht1 ht2 HL HF HO
  go_wp2_with fail
  refine (HSH.out _ hw1).mono ?_
  rintro e w5 ⟨hb5, hq⟩
  replace hpx := hpx.below hb5 hpx.lt
  replace hw1 := hw1.trans (hb5.mono hw1.size)
  clear hb5 p0 p1 p2 HSH
  have p0 : w5.cell? ⟨w.heap.size, 0, none⟩ = some (.int .i64 k) := hpx.cell 0
  have p1 : w5.cell? ⟨w.heap.size, 1, none⟩ = some (.slice A g.length cp) := hpx.cell 1
  have p2 : w5.cell? ⟨w.heap.size, 2, none⟩ = some (.slice A' h.length cp') := hpx.cell 2
  rcases hq with ⟨_, x, hx0, rfl⟩ | ⟨hc0, hs6, hps, t, rfl, hts, hpt, hno⟩
  · have hxb : (x != 0) = true := bne_iff_ne.2 hx0
    go_wp2
    go_ret
    exact ⟨rfl, (by repeat (first | exact Below.refl _ _ | assumption | refine Below.drew ?_ | refine below_drewN ?_ _ | refine Below.alloc ?_ (by first | omega | (simp; omega) | simp) _ | refine Below.setCell ?_ (by first | omega | (simp; omega) | simp) _))⟩
  have htl : t.size ≤ s.size := by have := hts.length_le; rwa [size_list, size_list] at this
  have hsl := size_list s
  have htl2 := size_list t
  have hht : holdsV k g h t = (true, 0) := by unfold holdsV; rw [if_neg (by rw [hc0]; simp), if_neg (by omega), hpt]
  have hhn : ∀ j, j < t.size → holdsV k g h (cutOut t j (j + 1)) = (false, 0) := fun j hj => by
    have h1 : (cutOut t j (j + 1)).size ≤ 60 := by rw [cutOut_size (by omega) (by omega)]; omega
    unfold holdsV; rw [if_neg (by rw [hc0]; simp), if_neg (by omega), hno j hj]
  have HHT := Lib.hid hht
  have HHN := Lib.hid hhn
  have HTS := Lib.hid hts
  clear hht hhn hts hpt hps hno hc0
  go_wp2
  go_loopw [11, 12, 43] (fun a _ i wr => ∃ (q j : Nat), j ≤ s.size ∧ i = .int .i64 j ∧ a = .int .i64 q ∧ q ≤ t.size ∧ Below w5.heap.size w5 wr ∧ Hid ((t.data.toList.drop q).Sublist (s.data.toList.drop j))) (fun _ _ i _ => s.size - (intOf i).toNat)
  case atStart => exact ⟨0, 0, by omega, rfl, rfl, by omega, Below.refl _ _, HTS.out⟩
  case round =>
    obtain ⟨q, j, hj, rfl, rfl, hq, h5r, HR⟩ := hrel
    by_cases hjs : j < s.size
    · have hjsi : (j : Int) < (s.size : Int) := by omega
      have hbs := bt_of hjs
      have hgs : s.data.toList[j]? = some (s.data.toList[j]'(by omega)) := List.getElem?_eq_getElem (by omega)
      by_cases hqt : q < t.size
      · have hqti : (q : Int) < (t.size : Int) := by omega
        have hbt := bt_of hqt
        have hgt : t.data.toList[q]? = some (t.data.toList[q]'(by omega)) := List.getElem?_eq_getElem (by omega)
        have hst := HR.out
        rw [drop_of hgt, drop_of hgs] at hst
        have hst2 := sub_step hst
        have hes : bt s.data.toList j = (s.data.toList[j]'(by omega)).toNat := by unfold bt; rw [List.getD_eq_getElem?_getD, hgs]; rfl
        have het : bt t.data.toList q = (t.data.toList[q]'(by omega)).toNat := by unfold bt; rw [List.getD_eq_getElem?_getD, hgt]; rfl
        by_cases heq : s.data.toList[j]'(by omega) = t.data.toList[q]'(by omega)
        · rw [if_pos heq] at hst2
          have hbb : bt s.data.toList j = bt t.data.toList q := by rw [hes, het, heq]
          have HST := Lib.hid hst2
          clear hst hst2 hgt hgs hes het heq HR
          rw [hbb] at hbs
          generalize bt t.data.toList q = y at hbs hbt
          go_wp2
          go_quiet (fail)
          go_wp2
          go_roundw
          case rel => exact ⟨q + 1, j + 1, by omega, by go_num, by go_num, by omega, below_drewN h5r _, HST.out⟩
          case measure => simp [intOf]; omega
        · rw [if_neg heq] at hst2
          have hbb : bt s.data.toList j ≠ bt t.data.toList q := by
            rw [hes, het]
            exact fun e => heq (UInt8.toNat_inj.1 e)
          have HST : Hid ((t.data.toList.drop q).Sublist (s.data.toList.drop (j + 1))) := by show List.Sublist _ _; rw [drop_of hgt]; exact hst2
          clear hst hst2 hgt hgs hes het heq HR
          generalize bt t.data.toList q = y at hbt hbb
          generalize bt s.data.toList j = x at hbs hbb
          have hne : ((x : Int) == (y : Int)) = false := by rw [beq_eq_false_iff_ne]; omega
          go_wp2
          go_quiet (fail)
          go_wp2
          go_roundw
          case rel => exact ⟨q, j + 1, by omega, by go_num, by go_num, by omega, below_drewN h5r _, HST.out⟩
          case measure => simp [intOf]; omega
      · have hqti : ((q : Int) < (t.size : Int)) = False := by simp; omega
        have HST : Hid ((t.data.toList.drop q).Sublist (s.data.toList.drop (j + 1))) := by
          show List.Sublist _ _
          rw [List.drop_of_length_le (by omega)]
          exact List.nil_sublist _
        clear hgs HR
        go_wp2
        go_quiet (fail)
        go_wp2
        go_roundw
        case rel => exact ⟨q, j + 1, by omega, by go_num, by go_num, by omega, below_drewN h5r _, HST.out⟩
        case measure => simp [intOf]; omega
    · have hjsi : ((j : Int) < (s.size : Int)) = False := by simp; omega
      have hqe : q = t.size := by
        have h1 := HR.out
        rw [List.drop_of_length_le (l := s.data.toList) (by omega)] at h1
        have h2 := List.sublist_nil.1 h1
        have h3 := congrArg List.length h2
        rw [List.length_drop] at h3
        simp at h3
        omega
      subst hqe
      have hw6 := hw1.trans (h5r.mono hw1.size)
      have hpr := hpx.below h5r hpx.lt
      have r0 : wr.cell? ⟨w.heap.size, 0, none⟩ = some (.int .i64 k) := hpr.cell 0
      have r1 : wr.cell? ⟨w.heap.size, 1, none⟩ = some (.slice A g.length cp) := hpr.cell 1
      have r2 : wr.cell? ⟨w.heap.size, 2, none⟩ = some (.slice A' h.length cp') := hpr.cell 2
      have hh1 := HHO.out wr hw6 t
      rw [HHT.out] at hh1
      have HH1 := Lib.hid hh1
      clear hh1 HR p0 p1 p2
      go_wp2_with fail
      refine HH1.out.mono ?_
      rintro e w7 ⟨rfl, hb7⟩
      have hw7 := hw6.trans (hb7.mono hw6.size)
      have hp7 := hpr.below hb7 hpr.lt
      have m0 : w7.cell? ⟨w.heap.size, 0, none⟩ = some (.int .i64 k) := hp7.cell 0
      have m1 : w7.cell? ⟨w.heap.size, 1, none⟩ = some (.slice A g.length cp) := hp7.cell 1
      have m2 : w7.cell? ⟨w.heap.size, 2, none⟩ = some (.slice A' h.length cp') := hp7.cell 2
      clear hb7 r0 r1 r2 HH1
      rcases Nat.eq_zero_or_pos t.size with ht0 | ht0
      · obtain rfl := size_zero ht0
        clear HHN HHO HWI
        go_wp2
        go_ret
        exact ⟨rfl, hw7⟩
      · have hE : t.toList.isEmpty = false := by
          rw [ByteArray.toList_eq]
          cases hl : t.data.toList with
          | nil => rw [hl] at htl2; simp at htl2; omega
          | cons x l => rfl
        have hwi := HWI.out t.size ht0 (by omega)
        have hlt : wiN z t.size < t.size := wiN_lt z ht0
        generalize wiN z t.size = q at hwi hlt
        have hh2 := fun W hW => HHO.out W hW (cutOut t q (q + 1))
        rw [HHN.out q hlt] at hh2
        have HH2 := Lib.hid hh2
        have HWQ := Lib.hid hwi
        clear hh2 hwi HHO HWI HHN
        go_wp2_with fail
        refine (HWQ.out _).mono ?_
        rintro e w8 ⟨rfl, hb8⟩
        have hw8 := hw7.trans (hb8.mono hw7.size)
        have hp8 := hp7.below hb8 hp7.lt
        clear hb8 m0 m1 m2
        go_upto_region 20 with fail
        obtain ⟨q1, hq1⟩ : ∃ q1, q + 1 = q1 := ⟨_, rfl⟩
        have hwq : IntKind.i64.wrap ((q : Int) + 1) = (q1 : Int) := by rw [← hq1]; exact wrap_i64 _ (by omega) (by omega)
        have hqc : q ≤ t.size := by omega
        have hq1c : q1 ≤ t.size := by omega
        have hbig : (9223372036854775807 < q + (t.size - q1)) = False := by simp; omega
        have HCO : Hid (cutOut t q q1 = t.extract 0 q ++ t.extract q1 t.size) := by exact rfl
        rw [hq1, HCO.out] at HH2
        refine wp_region_l (Below w8.heap.size w8) (fun _ => false) (by kernel_rfl) ?_
        have hC : Below w8.heap.size w8 w8.drew := (Below.refl _ _).drew
        generalize w8.drew = wd at hC ⊢
        apply L.rd (i := 0) rfl (by kernel_rfl) hC rfl
        · intro W hW
          have n0 := (hp8.below hW hp8.lt).cell 0; have n1 := (hp8.below hW hp8.lt).cell 1; have n2 := (hp8.below hW hp8.lt).cell 2
          unfold readW
          go_simp
          first | rfl | exact ⟨rfl, rfl⟩
        first | simp only [Act.put, List.setIfInBounds_toArray, List.set_cons_succ, List.set_cons_zero] | skip
        apply L.rd (i := 1) rfl (by kernel_rfl) hC rfl
        · intro W hW
          skip
          unfold readW
          go_simp
          first | rfl | exact ⟨rfl, rfl⟩
        first | simp only [Act.put, List.setIfInBounds_toArray, List.set_cons_succ, List.set_cons_zero] | skip
        apply L.rd (i := 2) rfl (by kernel_rfl) hC rfl
        · intro W hW
          skip
          unfold readW
          go_simp
          first | rfl | exact ⟨rfl, rfl⟩
        first | simp only [Act.put, List.setIfInBounds_toArray, List.set_cons_succ, List.set_cons_zero] | skip
        apply L.rd (i := 3) rfl (by kernel_rfl) hC rfl
        · intro W hW
          skip
          unfold readW
          go_simp
          first | rfl | exact ⟨rfl, rfl⟩
        first | simp only [Act.put, List.setIfInBounds_toArray, List.set_cons_succ, List.set_cons_zero] | skip
        apply L.rd (i := 4) rfl (by kernel_rfl) hC rfl
        · intro W hW
          skip
          unfold readW
          go_simp
          first | rfl | exact ⟨rfl, rfl⟩
        first | simp only [Act.put, List.setIfInBounds_toArray, List.set_cons_succ, List.set_cons_zero] | skip
        apply L.rd (i := 5) rfl (by kernel_rfl) hC rfl
        · intro W hW
          skip
          unfold readW
          go_simp
          first | rfl | exact ⟨rfl, rfl⟩
        first | simp only [Act.put, List.setIfInBounds_toArray, List.set_cons_succ, List.set_cons_zero] | skip
        apply L.rd (i := 6) rfl (by kernel_rfl) hC rfl
        · intro W hW
          skip
          unfold readW
          go_simp
          first | rfl | exact ⟨rfl, rfl⟩
        first | simp only [Act.put, List.setIfInBounds_toArray, List.set_cons_succ, List.set_cons_zero] | skip
        apply L.rd (i := 7) rfl (by kernel_rfl) hC rfl
        · intro W hW
          skip
          unfold readW
          go_simp
          first | rfl | exact ⟨rfl, rfl⟩
        first | simp only [Act.put, List.setIfInBounds_toArray, List.set_cons_succ, List.set_cons_zero] | skip
        apply L.rd (i := 8) rfl (by kernel_rfl) hC rfl
        · intro W hW
          skip
          unfold readW
          go_simp
          first | rfl | exact ⟨rfl, rfl⟩
        first | simp only [Act.put, List.setIfInBounds_toArray, List.set_cons_succ, List.set_cons_zero] | skip
        apply L.one (i := 9) rfl (by kernel_rfl) rfl
        unfold stepT
        go_simp
        go_at_call 40
        refine (HH2.out _ (hw8.trans (hC.mono hw8.size))).mono ?_
        rintro e wn ⟨rfl, hbn⟩
        replace hC := hC.trans (hbn.mono hC.size)
        clear hbn
        refine ⟨_, rfl, hC, ?_⟩
        first | simp only [Act.put, List.setIfInBounds_toArray, List.set_cons_succ, List.set_cons_zero] | skip
        apply L.rd (i := 10) rfl (by kernel_rfl) hC rfl
        · intro W hW
          skip
          unfold readW
          go_simp
          first | rfl | exact ⟨rfl, rfl⟩
        first | simp only [Act.put, List.setIfInBounds_toArray, List.set_cons_succ, List.set_cons_zero] | skip
        apply L.rd (i := 11) rfl (by kernel_rfl) hC rfl
        · intro W hW
          skip
          unfold readW
          go_simp
          first | rfl | exact ⟨rfl, rfl⟩
        first | simp only [Act.put, List.setIfInBounds_toArray, List.set_cons_succ, List.set_cons_zero] | skip
        apply L.rd (i := 12) rfl (by kernel_rfl) hC rfl
        · intro W hW
          skip
          unfold readW
          go_simp
          first | rfl | exact ⟨rfl, rfl⟩
        first | simp only [Act.put, List.setIfInBounds_toArray, List.set_cons_succ, List.set_cons_zero] | skip
        apply L.rd (i := 13) rfl (by kernel_rfl) hC rfl
        · intro W hW
          skip
          unfold readW
          go_simp
          first | rfl | exact ⟨rfl, rfl⟩
        first | simp only [Act.put, List.setIfInBounds_toArray, List.set_cons_succ, List.set_cons_zero] | skip
        apply L.rd (i := 14) rfl (by kernel_rfl) hC rfl
        · intro W hW
          skip
          unfold readW
          go_simp
          first | rfl | exact ⟨rfl, rfl⟩
        first | simp only [Act.put, List.setIfInBounds_toArray, List.set_cons_succ, List.set_cons_zero] | skip
        refine L.done (by kernel_rfl) ?_
        have hw9 := hw8.trans (hC.mono hw8.size)
        go_wp2
        go_ret
        exact ⟨rfl, hw9⟩
end Go.Proofs.Ytlamphneimpdlaa
