/- The walk of the law KernelPlain. -/
import Derived.Test.YtlamphneimpdlaaKnL
import Derived.Test.YtlamphneimpdlaaKnS
namespace Go.Proofs.Ytlamphneimpdlaa
open Go.RowKit

def koG : List Rl := [(nameA, ofN 9 [litE ⟨#[120]⟩])]
def kpG : List Rl := [(nameA, ofN 6 [litE ⟨#[120]⟩, .mk 1 0 0 0 0 ⟨#[]⟩ []])]
theorem ko_ker : kerR koG = 0 := by decide +kernel
theorem ko_is : kerG koG = kpG := by
  unfold koG kerG kpG ofN litE
  rw [List.map_cons, List.map_nil, kerE, if_neg (by decide), if_pos rfl, kerEs, kerEs, kerE, if_neg (by decide), if_neg (by decide), if_neg (by decide), kerEs]
  rfl

set_option maxRecDepth 100000 in
set_option maxHeartbeats 8000000 in
theorem walk_KernelPlain {g : List Rl} {A : Option Addr} {cp : Nat} {row : Nat → List Value} (w : World) (hg : GrIs w w.heap.size g A cp row) :
    Calls Try.prog 13 #[.agg #[.slice A g.length cp]] w fun e w' => e = .returned (.bool true) ∧ Below w.heap.size w w' := by
  have hlit := lit_b ⟨#[120]⟩
  have hof := of_b
  have hone1 := fun (W : World) (b : Nat) (hb : Blk W b 35 (exCells 3 0 0 0 0 ⟨#[120]⟩ none 0 0).toArray) =>
    one_b (ofN 9 [litE ⟨#[120]⟩]) _ W (ex_one (litE_is W _ (by decide)) hb (by simp) 9)
  have hone2 := fun (W : World) (b : Nat) (hb : Blk W b 35 (exCells 3 0 0 0 0 ⟨#[120]⟩ none 0 0 ++ exCells 1 0 0 0 0 ⟨#[]⟩ none 0 0).toArray) =>
    one_b (ofN 6 [litE ⟨#[120]⟩, .mk 1 0 0 0 0 ⟨#[]⟩ []]) _ W (ex_two (litE_is W _ (by decide)) (emptyE_is W) hb (by simp) 6)
  have hk := fun W (hW : Below w.heap.size w W) => kernel_any (hg.grow hW)
  have hgcap := hg.cap
  unfold maxLen at hgcap
  unfold exCells at hlit hof hone1 hone2
  simp only [List.cons_append, List.nil_append] at hone1 hone2
  have HL := Lib.hid hlit
  have HF := Lib.hid hof
  have HO1 := Lib.hid hone1
  have HO2 := Lib.hid hone2
  have HK := Lib.hid hk
  clear hlit hof hone1 hone2 hk hg
  go_enter Try.func13, Try.ntmps13
  go_wp2_with fail
  refine (HL.out _).mono ?_
  rintro e w1 ⟨rfl, hb1⟩
  have hgx : Blk w1 w.heap.size 24 #[.slice A g.length cp] := (blk_at rfl).below hb1 (by first | omega | (simp; omega) | simp)
  have hw1 : Below w.heap.size w w1 := ((Below.refl _ w).alloc (Nat.le_refl _) _).trans (hb1.mono (by first | omega | (simp; omega) | simp))
  have hz1 := hw1.size
  have hl1 := hgx.lt
  clear hb1
  go_wp2_with fail
  refine (HF.out _ _ _ _ _).mono ?_
  rintro e w2 ⟨rfl, hb2⟩
  have hkb := (blk_at (w := w1) (t := 35) (cs := #[.int .i64 3, .int .u64 0, .int .u64 0, .int .u64 0, .int .u64 0, .string ⟨#[120]⟩, .slice none 0 0]) rfl).below hb2 (by simp)
  replace hgx := (hgx.alloc _).below hb2 (by simp; omega)
  replace hw1 := (hw1.alloc hz1 _).trans (hb2.mono (by simp; omega))
  clear hb2 hz1 hl1
  go_wp2_with fail
  refine (HO1.out _ _ hkb).mono ?_
  rintro e w3 ⟨b1, rfl, hG1, hb3⟩
  replace hgx := hgx.below hb3 hgx.lt
  replace hw1 := hw1.trans (hb3.mono hw1.size)
  clear hb3 hkb
  have hk1 := kernel_any hG1
  have HK1 := Lib.hid hk1
  clear hk1 hG1
  go_wp2_with fail
  refine HK1.out.mono ?_
  rintro e w4 ⟨hb4, hq⟩
  replace hgx := hgx.below hb4 hgx.lt
  replace hw1 := hw1.trans (hb4.mono hw1.size)
  clear hb4 HK1
  rcases hq with ⟨hbad, _⟩ | ⟨_, V, c, rows, rfl, hF⟩
  · exact absurd ko_ker hbad
  rw [show kerG [(nameA, ofN 9 [litE ⟨#[120]⟩])] = kpG from ko_is] at hF
  have hG2 := hF.is
  clear hF
  have hz3 := hw1.size
  have hl3 := hgx.lt
  go_upto_region 2 with fail
  have hbx : Blk (w4.alloc (.cells #[.slice V 1 c] 24)) w4.heap.size 24 #[.slice V 1 c] := blk_at rfl
  replace hgx := hgx.alloc (.cells #[.slice V 1 c] 24)
  replace hw1 := hw1.alloc hz3 (.cells #[.slice V 1 c] 24)
  replace hG2 := hG2.grow ((Below.refl _ w4).alloc (Nat.le_refl _) (.cells #[.slice V 1 c] 24))
  generalize (w4.alloc (.cells #[.slice V 1 c] 24)) = w5 at hbx hgx hw1 hG2 ⊢
  generalize w4.heap.size = xb at hbx ⊢
  clear hz3 hl3
  refine wp_region_l (Below w5.heap.size w5) (fun _ => false) (by kernel_rfl) ?_
  have hC : Below w5.heap.size w5 w5.drew := (Below.refl _ _).drew
  generalize w5.drew = wd at hC ⊢
  have HG2 := Lib.hid hG2
  clear hG2
  apply L.rd (i := 0) rfl (by kernel_rfl) hC rfl
  · intro W hW
    skip
    unfold readW
    go_simp
    first | rfl | exact ⟨rfl, rfl⟩
  first | simp only [Act.put, List.setIfInBounds_toArray, List.set_cons_succ, List.set_cons_zero] | skip
  apply L.rd (i := 1) rfl (by kernel_rfl) hC rfl
  · intro W hW
    skip
    unfold readW
    go_simp
    first | rfl | exact ⟨rfl, rfl⟩
  first | simp only [Act.put, List.setIfInBounds_toArray, List.set_cons_succ, List.set_cons_zero] | skip
  apply L.rd (i := 2) rfl (by kernel_rfl) hC rfl
  · intro W hW
    skip
    unfold readW
    go_simp
    first | rfl | exact ⟨rfl, rfl⟩
  first | simp only [Act.put, List.setIfInBounds_toArray, List.set_cons_succ, List.set_cons_zero] | skip
  apply L.rdg (i := 3) rfl (by kernel_rfl) hC (by kernel_rfl)
  · intro W hW
    have n0 := (hbx.below hW hbx.lt).cell 0
    unfold readW
    go_simp
    first | rfl | exact ⟨rfl, rfl⟩
  first | simp only [Act.put, List.setIfInBounds_toArray, List.set_cons_succ, List.set_cons_zero] | skip
  apply L.rdg (i := 5) rfl (by kernel_rfl) hC (by kernel_rfl)
  · intro W hW
    skip
    unfold readW
    go_simp
    first | rfl | exact ⟨rfl, rfl⟩
  first | simp only [Act.put, List.setIfInBounds_toArray, List.set_cons_succ, List.set_cons_zero] | skip
  apply L.oneg (i := 4) rfl (by kernel_rfl) (by kernel_rfl)
  unfold stepT
  go_simp
  go_at_call 18
  refine (HL.out _).mono ?_
  rintro e wn ⟨rfl, hbn⟩
  replace hC := hC.trans (hbn.mono hC.size)
  clear hbn
  refine ⟨_, rfl, hC, ?_⟩
  first | simp only [Act.put, List.setIfInBounds_toArray, List.set_cons_succ, List.set_cons_zero] | skip
  apply L.oneg (i := 6) rfl (by kernel_rfl) (by kernel_rfl)
  unfold stepT
  go_simp
  have hkb : Blk (wn.alloc (.cells #[.int .i64 3, .int .u64 0, .int .u64 0, .int .u64 0, .int .u64 0, .string ⟨#[120]⟩, .slice none 0 0, .int .i64 1, .int .u64 0, .int .u64 0, .int .u64 0, .int .u64 0, .string ⟨#[]⟩, .slice none 0 0] 35)) wn.heap.size 35 #[.int .i64 3, .int .u64 0, .int .u64 0, .int .u64 0, .int .u64 0, .string ⟨#[120]⟩, .slice none 0 0, .int .i64 1, .int .u64 0, .int .u64 0, .int .u64 0, .int .u64 0, .string ⟨#[]⟩, .slice none 0 0] := blk_at rfl
  replace hC := hC.alloc hC.size (.cells #[.int .i64 3, .int .u64 0, .int .u64 0, .int .u64 0, .int .u64 0, .string ⟨#[120]⟩, .slice none 0 0, .int .i64 1, .int .u64 0, .int .u64 0, .int .u64 0, .int .u64 0, .string ⟨#[]⟩, .slice none 0 0] 35)
  generalize (wn.alloc (.cells #[.int .i64 3, .int .u64 0, .int .u64 0, .int .u64 0, .int .u64 0, .string ⟨#[120]⟩, .slice none 0 0, .int .i64 1, .int .u64 0, .int .u64 0, .int .u64 0, .int .u64 0, .string ⟨#[]⟩, .slice none 0 0] 35)) = wk at hC hkb ⊢
  generalize wn.heap.size = kb at hkb ⊢
  refine ⟨hC, ?_⟩
  first | simp only [Act.put, List.setIfInBounds_toArray, List.set_cons_succ, List.set_cons_zero] | skip
  apply L.oneg (i := 7) rfl (by kernel_rfl) (by kernel_rfl)
  unfold stepT
  go_simp
  go_at_call 17
  refine (HF.out _ _ _ _ _).mono ?_
  rintro e wn ⟨rfl, hbn⟩
  replace hkb := hkb.below hbn hkb.lt
  replace hC := hC.trans (hbn.mono hC.size)
  clear hbn
  refine ⟨_, rfl, hC, ?_⟩
  first | simp only [Act.put, List.setIfInBounds_toArray, List.set_cons_succ, List.set_cons_zero] | skip
  apply L.oneg (i := 8) rfl (by kernel_rfl) (by kernel_rfl)
  unfold stepT
  go_simp
  go_at_call 16
  refine (HO2.out _ _ hkb).mono ?_
  rintro e wn ⟨b2, rfl, hG3, hbn⟩
  replace hC := hC.trans (hbn.mono hC.size)
  clear hbn hkb
  refine ⟨_, rfl, hC, ?_⟩
  first | simp only [Act.put, List.setIfInBounds_toArray, List.set_cons_succ, List.set_cons_zero] | skip
  have hsm := sameg_any (HG2.out.grow hC) hG3
  rw [show isB (kpG = [(nameA, ofN 6 [litE ⟨#[120]⟩, .mk 1 0 0 0 0 ⟨#[]⟩ []])]) = true from isB_yes rfl] at hsm
  have HSM := Lib.hid hsm
  clear hsm hG3
  apply L.oneg (i := 9) rfl (by kernel_rfl) (by kernel_rfl)
  unfold stepT
  go_simp
  go_at_call 52
  refine HSM.out.mono ?_
  rintro e wn ⟨rfl, hbn⟩
  replace hC := hC.trans (hbn.mono hC.size)
  clear hbn
  refine ⟨_, rfl, hC, ?_⟩
  first | simp only [Act.put, List.setIfInBounds_toArray, List.set_cons_succ, List.set_cons_zero] | skip
  apply L.rdg (i := 10) rfl (by kernel_rfl) hC (by kernel_rfl)
  · intro W hW
    skip
    unfold readW
    go_simp
    first | rfl | exact ⟨rfl, rfl⟩
  first | simp only [Act.put, List.setIfInBounds_toArray, List.set_cons_succ, List.set_cons_zero] | skip
  apply L.rd (i := 11) rfl (by kernel_rfl) hC rfl
  · intro W hW
    skip
    unfold readW
    go_simp
    first | rfl | exact ⟨rfl, rfl⟩
  first | simp only [Act.put, List.setIfInBounds_toArray, List.set_cons_succ, List.set_cons_zero] | skip
  refine L.done (by kernel_rfl) ?_
  replace hgx := hgx.below hC hgx.lt
  replace hw1 := hw1.trans (hC.mono hw1.size)
  clear hC hbx HG2 HSM HL HO1 HO2 HF
  have g0 : wn.cell? ⟨w.heap.size, 0, none⟩ = some (.slice A g.length cp) := hgx.cell 0
  go_wp2_with fail
  refine (HK.out _ hw1).mono ?_
  rintro e w6 ⟨hb6, hq⟩
  replace hw1 := hw1.trans (hb6.mono hw1.size)
  clear hb6 g0 hgx HK
  have hz6 := hw1.size
  rcases hq with ⟨hbad, rfl⟩ | ⟨hk0, V', c', rows', rfl, hF⟩
  · have hxb : (kerR g != 0) = true := by rw [bne_iff_ne]; exact hbad
    generalize kerR g = x at hxb
    clear hbad
    go_wp2
    go_ret
    exact ⟨rfl, (by repeat (first | exact Below.refl _ _ | assumption | refine Below.drew ?_ | refine below_drewN ?_ _ | refine Below.alloc ?_ (by first | omega | (simp; omega) | simp) _ | refine Below.setCell ?_ (by first | omega | (simp; omega) | simp) _))⟩
  have hc0 := ker_check hk0
  have hH := hF.is
  clear hF hk0
  have R := right_of hc0
  replace hw1 := hw1.alloc hz6 (.cells #[.slice V' g.length c'] 24)
  replace hH := hH.grow ((Below.refl _ w6).alloc (Nat.le_refl _) (.cells #[.slice V' g.length c'] 24))
  have hhx : Blk (w6.alloc (.cells #[.slice V' g.length c'] 24)) w6.heap.size 24 #[.slice V' g.length c'] := blk_at rfl
  have hkin : ∀ r ∈ kerG g, kindsE r.2 = false := fun r hr => by
    obtain ⟨r0, h0, rfl⟩ := List.mem_map.1 hr
    exact kinds_ker (Fit1.of_rt (R.rt r0 h0))
  have hten := R.ten
  have htw := fun h => ker_twice hc0 h
  have HKIN := Lib.hid hkin
  have HH := Lib.hid hH
  have HTW := Lib.hid htw
  clear hkin hH htw R hc0
  go_upto_region 7 with fail
  generalize (w6.alloc (.cells #[.slice V' g.length c'] 24)) = w7 at hw1 hhx HH ⊢
  generalize w6.heap.size = hb at hhx ⊢
  clear hz6
  have h0 : w7.cell? ⟨hb, 0, none⟩ = some (.slice V' g.length c') := hhx.cell 0
  have hkl : (kerG g).length = g.length := kerG_len g
  go_wp2
  go_loopw [8, 44] (fun _ i wr => ∃ j : Nat, j ≤ g.length ∧ i = .int .i64 j ∧ Below w7.heap.size w7 wr) (fun _ i _ => g.length - (intOf i).toNat)
  case atStart => exact ⟨0, by omega, rfl, Below.refl _ _⟩
  case round =>
    obtain ⟨j, hj, rfl, h7r⟩ := hrel
    have hzr := h7r.size
    by_cases hjn : j < g.length
    · obtain ⟨ad, nm, k', a', b', c1, d', t', ks', A', cp', rfl, hab, hej, -, hE, hS⟩ := HH.out.rule (j := j) (by omega)
      have hcc : Eight wr (ad.add (j * 8)) nm k' a' b' c1 d' t' A' ks'.length cp' :=
        have hk := fun (q : Addr) (hq : q.block = (ad.add (j * 8)).block) => h7r.cell (p := q) (by rw [hq, add_block]; omega)
        ⟨(hk _ rfl).trans hS.c0, (hk ⟨_, _, none⟩ rfl).trans hS.c1, (hk ⟨_, _, none⟩ rfl).trans hS.c2, (hk ⟨_, _, none⟩ rfl).trans hS.c3, (hk ⟨_, _, none⟩ rfl).trans hS.c4, (hk ⟨_, _, none⟩ rfl).trans hS.c5, (hk ⟨_, _, none⟩ rfl).trans hS.c6, (hk ⟨_, _, none⟩ rfl).trans hS.c7⟩
      obtain ⟨y0, y1, y2, y3, y4, y5, y6, y7⟩ := hcc
      have had1 : ad.block < wr.heap.size := by omega
      have hjl : (j : Int) < (g.length : Int) := by omega
      have hki := HKIN.out _ (List.mem_of_getElem? hej)
      have hcall : ∀ (W : World) (lb : Nat), Below w7.heap.size w7 W → L3B lb W → Calls Try.prog 53 #[.agg #[.int .i64 k', .int .u64 a', .int .u64 b', .int .u64 c1, .int .u64 d', .string t', .slice A' ks'.length cp'], .slice (some ⟨lb, 0, none⟩) 3 3] W fun r w' => r = .returned (.bool false) ∧ Below W.heap.size W w' := fun W lb hW hl => by
        have := kinds_any _ _ lb W (hE.grow hW) hl
        rw [hki] at this
        exact this
      have HC := Lib.hid hcall
      have hl3 : L3B (wr.heap.size + 1) ((wr.alloc (.cells #[.string nm, .int .i64 k', .int .u64 a', .int .u64 b', .int .u64 c1, .int .u64 d', .string t', .slice A' ks'.length cp'] 102)).alloc (.cells #[.int .i64 8, .int .i64 9, .int .i64 10] 3)) := blk_at (by simp)
      clear hcall hki hE hS hej
      go_wp2_with fail
      refine (HC.out _ _ (by repeat (first | exact Below.refl _ _ | assumption | refine Below.drew ?_ | refine below_drewN ?_ _ | refine Below.alloc ?_ (by first | omega | (simp; omega) | simp) _ | refine Below.setCell ?_ (by first | omega | (simp; omega) | simp) _)) hl3).mono ?_
      rintro e w8 ⟨rfl, hb8⟩
      have hw8 : Below w7.heap.size w7 w8 := Below.trans (by repeat (first | exact Below.refl _ _ | assumption | refine Below.drew ?_ | refine below_drewN ?_ _ | refine Below.alloc ?_ (by first | omega | (simp; omega) | simp) _ | refine Below.setCell ?_ (by first | omega | (simp; omega) | simp) _)) (hb8.mono (by first | omega | (simp; omega) | simp))
      clear hb8
      go_wp2
      go_roundw
      case rel => exact ⟨j + 1, by omega, by go_num, hw8⟩
      case measure => simp [intOf]; omega
    · obtain rfl : j = g.length := by omega
      have hhr := hhx.below h7r hhx.lt
      have h1 : wr.cell? ⟨hb, 0, none⟩ = some (.slice V' g.length c') := hhr.cell 0
      have hwr := hw1.trans (h7r.mono hw1.size)
      have hck := gcheck_any (HH.out.grow h7r)
      rw [hkl] at hck
      have HCK := Lib.hid hck
      clear hck h0
      by_cases hch : checkG (kerG g) = 0
      rotate_left
      · have hxb : (checkG (kerG g) != 0) = true := by rw [bne_iff_ne]; exact hch
        generalize checkG (kerG g) = x at hxb HCK
        clear hch
        go_wp2_with fail
        refine HCK.out.mono ?_
        rintro e w8 ⟨rfl, hb8⟩
        have hw8 := hwr.trans (hb8.mono hwr.size)
        go_wp2
        go_ret
        exact ⟨rfl, hw8⟩
      obtain ⟨ht1, ht2⟩ := HTW.out hch
      rw [hch] at HCK
      have HT1 := Lib.hid ht1
      have HT2 := Lib.hid ht2
      clear ht1 ht2 hch HTW
      go_wp2_with fail
      refine HCK.out.mono ?_
      rintro e w8 ⟨rfl, hb8⟩
      have hw8 := hwr.trans (hb8.mono hwr.size)
      have hh8 := hhr.below hb8 hhr.lt
      have h78 := h7r.trans (hb8.mono h7r.size)
      have h2 : w8.cell? ⟨hb, 0, none⟩ = some (.slice V' g.length c') := hh8.cell 0
      have hk8 := kernel_any (HH.out.grow h78)
      rw [hkl] at hk8
      have HK8 := Lib.hid hk8
      clear hk8 hb8 h1 HCK
      go_wp2_with fail
      refine HK8.out.mono ?_
      rintro e w9 ⟨hb9, hq⟩
      have hw9 := hw8.trans (hb9.mono hw8.size)
      have hh9 := hh8.below hb9 hh8.lt
      have h79 := h78.trans (hb9.mono h78.size)
      have hz9 := hw9.size
      have hl9 := hh9.lt
      rcases hq with ⟨hbad, _⟩ | ⟨_, V2, c2, rows2, rfl, hF2⟩
      · exact absurd HT1.out hbad
      rw [HT2.out] at hF2
      rw [hkl]
      have hG9 := hF2.is
      have hsm := sameg_any (w := w9.alloc (.cells #[.slice V2 g.length c2] 24)) (HH.out.grow (h79.alloc h79.size _)) (hG9.grow ((Below.refl _ w9).alloc (Nat.le_refl _) _))
      rw [isB_yes rfl, hkl] at hsm
      have HSM := Lib.hid hsm
      have h3 : (w9.alloc (.cells #[.slice V2 g.length c2] 24)).cell? ⟨hb, 0, none⟩ = some (.slice V' g.length c') := (hh9.alloc _).cell 0
      clear hsm hG9 hF2 hb9 HK8 h2
      go_wp2_with fail
      refine HSM.out.mono ?_
      rintro e w10 ⟨rfl, hb10⟩
      have hw10 : Below w.heap.size w w10 := (hw9.alloc hz9 _).trans (hb10.mono (by first | omega | (simp; omega) | simp))
      go_wp2
      go_ret
      exact ⟨rfl, hw10⟩
end Go.Proofs.Ytlamphneimpdlaa
