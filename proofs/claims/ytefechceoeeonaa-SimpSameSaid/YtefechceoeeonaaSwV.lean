/- The walk of the law SimpSame. -/
import Derived.Test.YtefechceoeeonaaSwG
import Derived.Test.YtefechceoeeonaaSwN
import Derived.Test.YtefechceoeeonaaSmB
import Derived.Test.YtefechceoeeonaaPkA
import Derived.Test.YtefechceoeeonaaPlA
import Derived.Test.YtefechceoeeonaaEqF
import Derived.Test.YtefechceoeeonaaQSpg
namespace Go.Proofs.Ytefechceoeeonaa
open Go.RowKit

def s3G : List Rl := [(nameA, ofN 11 [ofN 11 [litE ⟨#[120]⟩]])]
def s4G : List Rl := [(nameA, ofN 10 [litE ⟨#[120]⟩])]
theorem s3_well : (wellG s3G).2 = 0 := by decide +kernel
theorem s3_simp : simpG s3G = s4G := by kernel_rfl
theorem wf_simp {g : List Rl} (h : ∀ r ∈ g, WfE r.2) : ∀ r ∈ simpG g, WfE r.2 := wf_simN _ h
theorem nodes_one {g : List Rl} (h : 0 < g.length) : 1 ≤ nodesG g := by
  cases g with
  | nil => simp at h
  | cons r g => unfold nodesG; rw [List.map_cons, List.sum_cons]; have := nodes_pos r.2; omega

set_option maxRecDepth 100000 in
set_option maxHeartbeats 8000000 in
theorem walk_SimpSame {g : List Rl} {A : Option Addr} {cp : Nat} {row : Nat → List Value} (s : ByteArray) (i p : Int) (w : World) (hg : GrIs w w.heap.size g A cp row) (hwf : ∀ r ∈ g, WfE r.2) :
    Calls Try.prog 10 #[.agg #[.slice A g.length cp], .string s, .int .i64 i, .int .i64 p] w fun e w' => e = .returned (.bool true) ∧ Below w.heap.size w w' := by
  have hlit := lit_b ⟨#[120]⟩
  have hof := of_b
  have hone1 := fun (W : World) (b1 b2 : Nat) (h1 : Blk W b1 38 (exCells 3 0 0 0 0 ⟨#[120]⟩ none 0 0).toArray) (h2 : Blk W b2 38 (exCells 11 0 0 0 0 ⟨#[]⟩ (some ⟨b1, 0, none⟩) 1 1).toArray) =>
    one_b (ofN 11 [ofN 11 [litE ⟨#[120]⟩]]) _ W (ex_one (ex_one (litE_is W _ (by decide)) h1 (by simp) 11) h2 (by simp) 11)
  have hone2 := fun (W : World) (b1 : Nat) (h1 : Blk W b1 38 (exCells 3 0 0 0 0 ⟨#[120]⟩ none 0 0).toArray) =>
    one_b (ofN 10 [litE ⟨#[120]⟩]) _ W (ex_one (litE_is W _ (by decide)) h1 (by simp) 10)
  have hk := fun W (hW : Below w.heap.size w W) => simp_any (hg.grow hW)
  have hnd := fun W (hW : Below w.heap.size w W) (R : RightG g) => gnodes_any (hg.grow hW) R
  have hfa := fun W (hW : Below w.heap.size w W) => wfacts_any (hg.grow hW)
  have hat := fun W (hW : Below w.heap.size w W) => at_any (hg.grow hW) hwf i s p
  unfold exCells at hlit hof hone1 hone2
  have HL := Lib.hid hlit
  have HF := Lib.hid hof
  have HO1 := Lib.hid hone1
  have HO2 := Lib.hid hone2
  have HK := Lib.hid hk
  have HND := Lib.hid hnd
  have HFA := Lib.hid hfa
  have HAT := Lib.hid hat
  have HWF := Lib.hid hwf
  have HG := Lib.hid hg
  clear hlit hof hone1 hone2 hk hnd hfa hat hwf hg
  go_enter Try.func10, Try.ntmps10
  go_wp2_with fail
  refine (HL.out _).mono ?_
  rintro e w1 ⟨rfl, hb1⟩
  have hgx : Blk w1 w.heap.size 24 #[.slice A g.length cp] := (blk_at rfl).below hb1 (by first | omega | (simp; omega) | simp)
  have hw1 : Below w.heap.size w w1 := ((Below.refl _ w).alloc (Nat.le_refl _) _).trans (hb1.mono (by first | omega | (simp; omega) | simp))
  have hz1 := hw1.size
  have hl1 := hgx.lt
  clear hb1
  go_wp2_with fail
  refine (HF.out _ _ _ _ _).mono ?_
  rintro e w2 ⟨rfl, hb2⟩
  have hkb := (blk_at (w := w1) (t := 38) (cs := #[.int .i64 3, .int .u64 0, .int .u64 0, .int .u64 0, .int .u64 0, .string ⟨#[120]⟩, .slice none 0 0]) rfl).below hb2 (by simp)
  replace hgx := (hgx.alloc _).below hb2 (by simp; omega)
  replace hw1 := (hw1.alloc hz1 _).trans (hb2.mono (by simp; omega))
  have hz2 := hw1.size
  have hl2 := hgx.lt
  clear hb2 hz1 hl1
  generalize w1.heap.size = b1 at hkb ⊢
  go_wp2_with fail
  refine (HF.out _ _ _ _ _).mono ?_
  rintro e w3 ⟨rfl, hb3⟩
  have hkb2 := (blk_at (w := w2) (t := 38) (cs := #[.int .i64 11, .int .u64 0, .int .u64 0, .int .u64 0, .int .u64 0, .string ⟨#[]⟩, .slice (some ⟨b1, 0, none⟩) 1 1]) rfl).below hb3 (by simp)
  have hkb1 := (hkb.alloc (.cells #[.int .i64 11, .int .u64 0, .int .u64 0, .int .u64 0, .int .u64 0, .string ⟨#[]⟩, .slice (some ⟨b1, 0, none⟩) 1 1] 38)).below hb3 (by have := hkb.lt; simp; omega)
  replace hgx := (hgx.alloc _).below hb3 (by simp; omega)
  replace hw1 := (hw1.alloc hz2 _).trans (hb3.mono (by simp; omega))
  clear hb3 hz2 hl2 hkb
  go_wp2_with fail
  refine (HO1.out _ _ _ hkb1 hkb2).mono ?_
  rintro e w4 ⟨b3, rfl, hG1, hb4⟩
  replace hgx := hgx.below hb4 hgx.lt
  replace hw1 := hw1.trans (hb4.mono hw1.size)
  clear hb4 hkb1 hkb2
  have hk1 := simp_any hG1
  have HK1 := Lib.hid hk1
  clear hk1 hG1
  go_wp2_with fail
  refine HK1.out.mono ?_
  rintro e w5 ⟨hb5, hq⟩
  replace hgx := hgx.below hb5 hgx.lt
  replace hw1 := hw1.trans (hb5.mono hw1.size)
  clear hb5 HK1
  rcases hq with ⟨hbad, _⟩ | ⟨_, V, c, rows, rfl, hF⟩
  · exact absurd s3_well hbad
  rw [show simpG [(nameA, ofN 11 [ofN 11 [litE ⟨#[120]⟩]])] = s4G from s3_simp] at hF
  have hG2 := hF.is
  clear hF
  have hz3 := hw1.size
  have hl3 := hgx.lt
  go_upto_region 2 with fail
  have hbx : Blk (w5.alloc (.cells #[.slice V 1 c] 24)) w5.heap.size 24 #[.slice V 1 c] := blk_at rfl
  replace hgx := hgx.alloc (.cells #[.slice V 1 c] 24)
  replace hw1 := hw1.alloc hz3 (.cells #[.slice V 1 c] 24)
  replace hG2 := hG2.grow ((Below.refl _ w5).alloc (Nat.le_refl _) (.cells #[.slice V 1 c] 24))
  generalize (w5.alloc (.cells #[.slice V 1 c] 24)) = w6 at hbx hgx hw1 hG2 ⊢
  generalize w5.heap.size = xb at hbx ⊢
  clear hz3 hl3
  refine wp_region_l (Below w6.heap.size w6) (fun _ => false) (by kernel_rfl) ?_
  have hC : Below w6.heap.size w6 w6.drew := (Below.refl _ _).drew
  generalize w6.drew = wd at hC ⊢
  have HG2 := Lib.hid hG2
  clear hG2
  apply L.rd (i := 0) rfl (by kernel_rfl) hC rfl
  · intro W hW
    skip
    unfold readW
    go_simp
    first | rfl | exact ⟨rfl, rfl⟩
  first | simp only [Act.put, List.setIfInBounds_toArray, List.set_cons_succ, List.set_cons_zero] | skip
  apply L.rd (i := 1) rfl (by kernel_rfl) hC rfl
  · intro W hW
    skip
    unfold readW
    go_simp
    first | rfl | exact ⟨rfl, rfl⟩
  first | simp only [Act.put, List.setIfInBounds_toArray, List.set_cons_succ, List.set_cons_zero] | skip
  apply L.rd (i := 2) rfl (by kernel_rfl) hC rfl
  · intro W hW
    skip
    unfold readW
    go_simp
    first | rfl | exact ⟨rfl, rfl⟩
  first | simp only [Act.put, List.setIfInBounds_toArray, List.set_cons_succ, List.set_cons_zero] | skip
  apply L.rdg (i := 3) rfl (by kernel_rfl) hC (by kernel_rfl)
  · intro W hW
    have n0 := (hbx.below hW hbx.lt).cell 0
    unfold readW
    go_simp
    first | rfl | exact ⟨rfl, rfl⟩
  first | simp only [Act.put, List.setIfInBounds_toArray, List.set_cons_succ, List.set_cons_zero] | skip
  apply L.oneg (i := 4) rfl (by kernel_rfl) (by kernel_rfl)
  unfold stepT
  go_simp
  go_at_call 18
  refine (HL.out _).mono ?_
  rintro e wn ⟨rfl, hbn⟩
  replace hC := hC.trans (hbn.mono hC.size)
  clear hbn
  refine ⟨_, rfl, hC, ?_⟩
  first | simp only [Act.put, List.setIfInBounds_toArray, List.set_cons_succ, List.set_cons_zero] | skip
  apply L.oneg (i := 5) rfl (by kernel_rfl) (by kernel_rfl)
  unfold stepT
  go_simp
  have hkb : Blk (wn.alloc (.cells #[.int .i64 3, .int .u64 0, .int .u64 0, .int .u64 0, .int .u64 0, .string ⟨#[120]⟩, .slice none 0 0] 38)) wn.heap.size 38 #[.int .i64 3, .int .u64 0, .int .u64 0, .int .u64 0, .int .u64 0, .string ⟨#[120]⟩, .slice none 0 0] := blk_at rfl
  replace hC := hC.alloc hC.size (.cells #[.int .i64 3, .int .u64 0, .int .u64 0, .int .u64 0, .int .u64 0, .string ⟨#[120]⟩, .slice none 0 0] 38)
  generalize (wn.alloc (.cells #[.int .i64 3, .int .u64 0, .int .u64 0, .int .u64 0, .int .u64 0, .string ⟨#[120]⟩, .slice none 0 0] 38)) = wk at hC hkb ⊢
  generalize wn.heap.size = kb at hkb ⊢
  refine ⟨hC, ?_⟩
  first | simp only [Act.put, List.setIfInBounds_toArray, List.set_cons_succ, List.set_cons_zero] | skip
  apply L.oneg (i := 6) rfl (by kernel_rfl) (by kernel_rfl)
  unfold stepT
  go_simp
  go_at_call 20
  refine (HF.out _ _ _ _ _).mono ?_
  rintro e wn ⟨rfl, hbn⟩
  replace hkb := hkb.below hbn hkb.lt
  replace hC := hC.trans (hbn.mono hC.size)
  clear hbn
  refine ⟨_, rfl, hC, ?_⟩
  first | simp only [Act.put, List.setIfInBounds_toArray, List.set_cons_succ, List.set_cons_zero] | skip
  apply L.oneg (i := 7) rfl (by kernel_rfl) (by kernel_rfl)
  unfold stepT
  go_simp
  go_at_call 17
  refine (HO2.out _ _ hkb).mono ?_
  rintro e wn ⟨b2, rfl, hG3, hbn⟩
  replace hC := hC.trans (hbn.mono hC.size)
  clear hbn hkb
  refine ⟨_, rfl, hC, ?_⟩
  first | simp only [Act.put, List.setIfInBounds_toArray, List.set_cons_succ, List.set_cons_zero] | skip
  have hsm := sameg_any (HG2.out.grow hC) hG3
  rw [show isB (s4G = [(nameA, ofN 10 [litE ⟨#[120]⟩])]) = true from isB_yes rfl] at hsm
  have HSM := Lib.hid hsm
  clear hsm hG3
  apply L.oneg (i := 8) rfl (by kernel_rfl) (by kernel_rfl)
  unfold stepT
  go_simp
  go_at_call 13
  refine HSM.out.mono ?_
  rintro e wn ⟨rfl, hbn⟩
  replace hC := hC.trans (hbn.mono hC.size)
  clear hbn
  refine ⟨_, rfl, hC, ?_⟩
  first | simp only [Act.put, List.setIfInBounds_toArray, List.set_cons_succ, List.set_cons_zero] | skip
  apply L.rdg (i := 9) rfl (by kernel_rfl) hC (by kernel_rfl)
  · intro W hW
    skip
    unfold readW
    go_simp
    first | rfl | exact ⟨rfl, rfl⟩
  first | simp only [Act.put, List.setIfInBounds_toArray, List.set_cons_succ, List.set_cons_zero] | skip
  apply L.rd (i := 10) rfl (by kernel_rfl) hC rfl
  · intro W hW
    skip
    unfold readW
    go_simp
    first | rfl | exact ⟨rfl, rfl⟩
  first | simp only [Act.put, List.setIfInBounds_toArray, List.set_cons_succ, List.set_cons_zero] | skip
  refine L.done (by kernel_rfl) ?_
  replace hgx := hgx.below hC hgx.lt
  replace hw1 := hw1.trans (hC.mono hw1.size)
  clear hC hbx HG2 HSM HL HO1 HO2 HF
  have g0 : wn.cell? ⟨w.heap.size, 0, none⟩ = some (.slice A g.length cp) := hgx.cell 0
  go_wp2_with fail
  refine (HK.out _ hw1).mono ?_
  rintro e w7 ⟨hb7, hq⟩
  replace hgx := hgx.below hb7 hgx.lt
  replace hw1 := hw1.trans (hb7.mono hw1.size)
  clear hb7 g0 HK
  have hz7 := hw1.size
  have hgl7 := hgx.lt
  rcases hq with ⟨hbad, rfl⟩ | ⟨hk0, V', c', rows', rfl, hF⟩
  · have hxb : ((wellG g).2 != 0) = true := by rw [bne_iff_ne]; exact hbad
    generalize (wellG g).2 = x at hxb
    clear hbad
    go_wp2
    go_ret
    exact ⟨rfl, (by repeat (first | exact Below.refl _ _ | assumption | refine Below.drew ?_ | refine below_drewN ?_ _ | refine Below.alloc ?_ (by first | omega | (simp; omega) | simp) _ | refine Below.setCell ?_ (by first | omega | (simp; omega) | simp) _))⟩
  have W0 := well_of hk0
  obtain ⟨hE, -⟩ := simp_end W0
  have hlen := hE.len
  have hH := hF.is
  have hwfh := wf_simp HWF.out
  have hat_ := fun v v' x x' => at_sim (i := i) (s := s) (p := p) (v := v) (v' := v') (x := x) (x' := x') W0 hE
  have hnm : ∀ (j : Nat) (r : Rl), g[j]? = some r → ∃ r', (simpG g)[j]? = some r' ∧ r'.1 = r.1 := fun j r hr => by
    obtain ⟨r', h1, h2, _⟩ := hE.at_ j r hr
    exact ⟨r', h1, h2⟩
  have hwh : wellG (simpG g) = (0, 0) := well_yes hE.well
  have hfk := hE.facts
  have hnn := hE.nodes
  have hn1 := nodes_one hE.well.right.pos
  have hRh := hE.well.right
  have hRg := W0.right
  have hc0 := check_of hRg
  have hch := check_of hRh
  have h10 := hRg.ten
  have hfl : (factsG g).length = g.length := facts_len g
  clear hF hk0 W0 hE
  generalize simpG g = h at *
  replace hgx := hgx.alloc (.cells #[.slice V' g.length c'] 24)
  replace hw1 := hw1.alloc hz7 (.cells #[.slice V' g.length c'] 24)
  replace hH := hH.grow ((Below.refl _ w7).alloc (Nat.le_refl _) (.cells #[.slice V' g.length c'] 24))
  have hhx : Blk (w7.alloc (.cells #[.slice V' g.length c'] 24)) w7.heap.size 24 #[.slice V' g.length c'] := blk_at rfl
  go_upto_region 7 with fail
  generalize (w7.alloc (.cells #[.slice V' g.length c'] 24)) = w8 at hgx hw1 hhx hH ⊢
  generalize w7.heap.size = hb at hhx ⊢
  have hb0 : Below w8.heap.size w8 w8 := Below.refl _ _
  have hwl := fun W (hW : Below w8.heap.size w8 W) => well_any (hH.grow hW)
  have hndh := fun W (hW : Below w8.heap.size w8 W) => gnodes_any (hH.grow hW) hRh
  have hfah := fun W (hW : Below w8.heap.size w8 W) => wfacts_any (hH.grow hW)
  have hath := fun W (hW : Below w8.heap.size w8 W) => at_any (hH.grow hW) hwfh i s p
  have hndg := fun W hW => HND.out W hW hRg
  unfold WellQ at hwl
  rw [hwh] at hwl
  simp only [hlen] at hwl hndh hfah hath
  unfold FactsQ at hfah
  rw [hlen, hfk] at hfah
  have HWH := Lib.hid hwl
  have HNH := Lib.hid hndh
  have HFH := Lib.hid hfah
  have HAH := Lib.hid hath
  have HNG := Lib.hid hndg
  have HHH := Lib.hid hH
  have HAX := Lib.hid hat_
  have HNM := Lib.hid hnm
  have HC0 := Lib.hid hc0
  have HCH0 := Lib.hid hch
  have HFL := Lib.hid hfl
  have hso := run_same_out
  clear hwl hndh hfah hath hndg hH hat_ hnm hc0 hch hfl hwh hfk hRh hRg hwfh hz7 hgl7 HND
  obtain ⟨na, hna⟩ : ∃ na, nodesG g = na := ⟨_, rfl⟩
  obtain ⟨nb, hnb⟩ : ∃ nb, nodesG h = nb := ⟨_, rfl⟩
  rw [hna] at hnn HNG
  rw [hnb] at hnn HNH hn1
  clear hna hnb
  have h0 : w8.cell? ⟨hb, 0, none⟩ = some (.slice V' g.length c') := hhx.cell 0
  have g0 : w8.cell? ⟨w.heap.size, 0, none⟩ = some (.slice A g.length cp) := hgx.cell 0
  go_wp2_with fail
  refine (HWH.out _ hb0).mono ?_
  rintro e w9 ⟨rfl, hb9⟩
  replace hgx := hgx.below hb9 hgx.lt
  replace hhx := hhx.below hb9 hhx.lt
  replace hw1 := hw1.trans (hb9.mono hw1.size)
  replace hb0 := hb0.trans (hb9.mono hb0.size)
  clear hb9 g0 h0
  have g0 : w9.cell? ⟨w.heap.size, 0, none⟩ = some (.slice A g.length cp) := hgx.cell 0
  have h0 : w9.cell? ⟨hb, 0, none⟩ = some (.slice V' g.length c') := hhx.cell 0
  go_wp2
  go_loopw [79] (fun i wr => ∃ j : Nat, j ≤ g.length ∧ i = .int .i64 j ∧ Below w.heap.size w wr ∧ Below w8.heap.size w8 wr ∧ Blk wr w.heap.size 24 #[.slice A g.length cp] ∧ Blk wr hb 24 #[.slice V' g.length c']) (fun i _ => g.length - (intOf i).toNat)
  case atStart => exact ⟨0, by omega, rfl, hw1, hb0, hgx, hhx⟩
  case round =>
  clear hw1 hb0 hgx hhx g0 h0
  obtain ⟨j, hj, rfl, hw1, hb0, hgx, hhx⟩ := hrel
  by_cases hjn : j < g.length
  · obtain ⟨ad, nm, k', a', b', c1, d', t', ks', A', cp', rfl, hab, hej, -, -, hS⟩ := HG.out.rule hjn
    obtain ⟨ad2, nm2, k2, a2, b2, c2, d2, t2, ks2, A2, cp2, rfl, hab2, hej2, -, -, hS2⟩ := HHH.out.rule (j := j) (by omega)
    obtain ⟨r', h1, h2⟩ := HNM.out j _ hej
    rw [hej2] at h1
    injection h1 with h1
    subst h1
    simp only at h2
    subst h2
    have y0 : wr.cell? (ad.add (j * 8)) = some (.string nm2) := (hw1.cell (by rw [add_block]; exact hab)).trans hS.c0
    have y1 : wr.cell? (ad2.add (j * 8)) = some (.string nm2) := (hb0.cell (by rw [add_block]; exact hab2)).trans hS2.c0
    have hab' : (ad.add (j * 8)).block < wr.heap.size := by rw [add_block]; have := hw1.size; omega
    have hab2' : (ad2.add (j * 8)).block < wr.heap.size := by rw [add_block]; have := hb0.size; omega
    have hjl : (j : Int) < (g.length : Int) := by omega
    clear hS hS2 hej hej2
    go_upto_region 13 with fail
    refine wp_region_l (Below wr.heap.size wr) (fun _ => false) (by kernel_rfl) ?_
    have hC : Below wr.heap.size wr wr.drew := (Below.refl _ _).drew
    generalize wr.drew = wd at hC ⊢
    apply L.rd (i := 0) rfl (by kernel_rfl) hC rfl
    · intro W hW
      skip
      unfold readW
      go_simp
      first | rfl | exact ⟨rfl, rfl⟩
    first | simp only [Act.put, List.setIfInBounds_toArray, List.set_cons_succ, List.set_cons_zero] | skip
    apply L.rd (i := 1) rfl (by kernel_rfl) hC rfl
    · intro W hW
      have n0 := (hhx.below hW hhx.lt).cell 0
      unfold readW
      go_simp
      first | rfl | exact ⟨rfl, rfl⟩
    first | simp only [Act.put, List.setIfInBounds_toArray, List.set_cons_succ, List.set_cons_zero] | skip
    apply L.rd (i := 2) rfl (by kernel_rfl) hC rfl
    · intro W hW
      skip
      unfold readW
      go_simp
      first | rfl | exact ⟨rfl, rfl⟩
    first | simp only [Act.put, List.setIfInBounds_toArray, List.set_cons_succ, List.set_cons_zero] | skip
    apply L.rd (i := 3) rfl (by kernel_rfl) hC rfl
    · intro W hW
      skip
      unfold readW
      go_simp
      first | rfl | exact ⟨rfl, rfl⟩
    first | simp only [Act.put, List.setIfInBounds_toArray, List.set_cons_succ, List.set_cons_zero] | skip
    apply L.rd (i := 4) rfl (by kernel_rfl) hC rfl
    · intro W hW
      skip
      unfold readW
      go_simp
      first | rfl | exact ⟨rfl, rfl⟩
    first | simp only [Act.put, List.setIfInBounds_toArray, List.set_cons_succ, List.set_cons_zero] | skip
    apply L.rd (i := 5) rfl (by kernel_rfl) hC rfl
    · intro W hW
      have n0 := (hW.cell (p := ad2.add (j * 8)) hab2').trans y1
      unfold readW
      go_simp
      first | rfl | exact ⟨rfl, rfl⟩
    first | simp only [Act.put, List.setIfInBounds_toArray, List.set_cons_succ, List.set_cons_zero] | skip
    apply L.rd (i := 6) rfl (by kernel_rfl) hC rfl
    · intro W hW
      skip
      unfold readW
      go_simp
      first | rfl | exact ⟨rfl, rfl⟩
    first | simp only [Act.put, List.setIfInBounds_toArray, List.set_cons_succ, List.set_cons_zero] | skip
    apply L.rd (i := 7) rfl (by kernel_rfl) hC rfl
    · intro W hW
      have n0 := (hgx.below hW hgx.lt).cell 0
      unfold readW
      go_simp
      first | rfl | exact ⟨rfl, rfl⟩
    first | simp only [Act.put, List.setIfInBounds_toArray, List.set_cons_succ, List.set_cons_zero] | skip
    apply L.rd (i := 8) rfl (by kernel_rfl) hC rfl
    · intro W hW
      skip
      unfold readW
      go_simp
      first | rfl | exact ⟨rfl, rfl⟩
    first | simp only [Act.put, List.setIfInBounds_toArray, List.set_cons_succ, List.set_cons_zero] | skip
    apply L.rd (i := 9) rfl (by kernel_rfl) hC rfl
    · intro W hW
      skip
      unfold readW
      go_simp
      first | rfl | exact ⟨rfl, rfl⟩
    first | simp only [Act.put, List.setIfInBounds_toArray, List.set_cons_succ, List.set_cons_zero] | skip
    apply L.rd (i := 10) rfl (by kernel_rfl) hC rfl
    · intro W hW
      skip
      unfold readW
      go_simp
      first | rfl | exact ⟨rfl, rfl⟩
    first | simp only [Act.put, List.setIfInBounds_toArray, List.set_cons_succ, List.set_cons_zero] | skip
    apply L.rd (i := 11) rfl (by kernel_rfl) hC rfl
    · intro W hW
      have n0 := (hW.cell (p := ad.add (j * 8)) hab').trans y0
      unfold readW
      go_simp
      first | rfl | exact ⟨rfl, rfl⟩
    first | simp only [Act.put, List.setIfInBounds_toArray, List.set_cons_succ, List.set_cons_zero] | skip
    apply L.rd (i := 12) rfl (by kernel_rfl) hC rfl
    · intro W hW
      skip
      unfold readW
      go_simp
      first | rfl | exact ⟨rfl, rfl⟩
    first | simp only [Act.put, List.setIfInBounds_toArray, List.set_cons_succ, List.set_cons_zero] | skip
    refine L.done (by kernel_rfl) ?_
    have hgx2 := hgx.below hC hgx.lt
    have hhx2 := hhx.below hC hhx.lt
    have hw2 := hw1.trans (hC.mono hw1.size)
    have hb2 := hb0.trans (hC.mono hb0.size)
    clear hC y0 y1 hgx hhx hw1 hb0
    go_wp2
    go_roundw
    case rel => exact ⟨j + 1, by omega, by go_num, hw2, hb2, hgx2, hhx2⟩
    case measure => simp [intOf]; omega
  obtain rfl : j = g.length := by omega
  clear hj hjn HNM HG HHH
  have h0 : wr.cell? ⟨hb, 0, none⟩ = some (.slice V' g.length c') := hhx.cell 0
  have g0 : wr.cell? ⟨w.heap.size, 0, none⟩ = some (.slice A g.length cp) := hgx.cell 0
  have hnni : (nb : Int) ≤ (na : Int) := by omega
  have hn1i : (1 : Int) ≤ (nb : Int) := by omega
  go_wp2_with fail
  refine (HNG.out _ hw1).mono ?_
  rintro e w20 ⟨rfl, hb20⟩
  replace hgx := hgx.below hb20 hgx.lt
  replace hhx := hhx.below hb20 hhx.lt
  replace hw1 := hw1.trans (hb20.mono hw1.size)
  replace hb0 := hb0.trans (hb20.mono hb0.size)
  clear hb20 g0 h0
  have g0 : w20.cell? ⟨w.heap.size, 0, none⟩ = some (.slice A g.length cp) := hgx.cell 0
  have h0 : w20.cell? ⟨hb, 0, none⟩ = some (.slice V' g.length c') := hhx.cell 0
  go_wp2_with fail
  refine (HNH.out _ hb0).mono ?_
  rintro e w21 ⟨rfl, hb21⟩
  replace hgx := hgx.below hb21 hgx.lt
  replace hhx := hhx.below hb21 hhx.lt
  replace hw1 := hw1.trans (hb21.mono hw1.size)
  replace hb0 := hb0.trans (hb21.mono hb0.size)
  clear hb21 g0 h0
  have g0 : w21.cell? ⟨w.heap.size, 0, none⟩ = some (.slice A g.length cp) := hgx.cell 0
  have h0 : w21.cell? ⟨hb, 0, none⟩ = some (.slice V' g.length c') := hhx.cell 0
  go_wp2_with fail
  refine (HFA.out _ hw1).mono ?_
  rintro e w10 ⟨hb10, hq⟩
  replace hgx := hgx.below hb10 hgx.lt
  replace hhx := hhx.below hb10 hhx.lt
  replace hw1 := hw1.trans (hb10.mono hw1.size)
  replace hb0 := hb0.trans (hb10.mono hb0.size)
  clear hb10 g0 h0
  have g0 : w10.cell? ⟨w.heap.size, 0, none⟩ = some (.slice A g.length cp) := hgx.cell 0
  have h0 : w10.cell? ⟨hb, 0, none⟩ = some (.slice V' g.length c') := hhx.cell 0
  rcases hq with ⟨hbad, _⟩ | ⟨_, fb, rfl, hfb, -⟩
  · exact absurd HC0.out hbad
  have hfl1 := Blk.lt hfb
  go_wp2_with fail
  refine (HFH.out _ hb0).mono ?_
  rintro e w11 ⟨hb11, hq⟩
  have hfb1 := Blk.below hfb hb11 hfl1
  replace hgx := hgx.below hb11 hgx.lt
  replace hhx := hhx.below hb11 hhx.lt
  replace hw1 := hw1.trans (hb11.mono hw1.size)
  replace hb0 := hb0.trans (hb11.mono hb0.size)
  clear hb11 g0 h0
  have g0 : w11.cell? ⟨w.heap.size, 0, none⟩ = some (.slice A g.length cp) := hgx.cell 0
  have h0 : w11.cell? ⟨hb, 0, none⟩ = some (.slice V' g.length c') := hhx.cell 0
  rcases hq with ⟨hbad, _⟩ | ⟨_, fc, rfl, hfc, -⟩
  · exact absurd HCH0.out hbad
  have hfl2 := Blk.lt hfc
  have hfl3 := Blk.lt hfb1
  clear hfb hfl1
  go_wp2_with fail
  refine (HAT.out _ hw1).mono ?_
  rintro e w12 ⟨v1, x1, hA1, rfl, hb12⟩
  have hfb2 := Blk.below hfb1 hb12 hfl3
  have hfc2 := Blk.below hfc hb12 hfl2
  replace hgx := hgx.below hb12 hgx.lt
  replace hhx := hhx.below hb12 hhx.lt
  replace hw1 := hw1.trans (hb12.mono hw1.size)
  replace hb0 := hb0.trans (hb12.mono hb0.size)
  clear hb12 g0 h0
  have g0 : w12.cell? ⟨w.heap.size, 0, none⟩ = some (.slice A g.length cp) := hgx.cell 0
  have h0 : w12.cell? ⟨hb, 0, none⟩ = some (.slice V' g.length c') := hhx.cell 0
  have HA1 := Lib.hid hA1
  clear hfb1 hfc hfl2 hfl3 hA1
  have hz12 := hw1.size
  have hl12 := hgx.lt
  have hl13 := hhx.lt
  obtain ⟨vb, vn, hvo⟩ : ∃ (b : Bool) (n : Int), outV v1 = .agg #[.bool b, .int .i64 n] := by cases v1 <;> exact ⟨_, _, rfl⟩
  have HVO := Lib.hid hvo
  rw [hvo]
  clear hvo
  have hob : Blk (w12.alloc (.cells #[.bool vb, .int .i64 vn] 74)) w12.heap.size 74 #[.bool vb, .int .i64 vn] := blk_at rfl
  have hb1' := hb0.alloc (by have := hb0.size; omega) (.cells #[.bool vb, .int .i64 vn] 74)
  go_wp2_with fail
  refine (HAH.out _ hb1').mono ?_
  rintro e w13 ⟨v2, x2, hA2, rfl, hb13⟩
  obtain ⟨rfl, rfl⟩ := HAX.out _ _ _ _ HA1.out hA2
  rw [HVO.out]
  have hob2 := hob.below hb13 hob.lt
  have hw2 := (hw1.alloc hz12 (.cells #[.bool vb, .int .i64 vn] 74)).trans (hb13.mono (by simp; omega))
  have hfb3 := Blk.below (Blk.alloc hfb2 (.cells #[.bool vb, .int .i64 vn] 74)) hb13 (by have := Blk.lt hfb2; simp; omega)
  have hfc3 := Blk.below (Blk.alloc hfc2 (.cells #[.bool vb, .int .i64 vn] 74)) hb13 (by have := Blk.lt hfc2; simp; omega)
  have hol2 := hob2.lt
  have hz13 := hw2.size
  clear hA2 HA1 HAX hob hb13 hfb2 hfc2 hb1' HVO
  have hob3 := hob2.alloc (.cells #[.bool vb, .int .i64 vn] 74)
  have hoc3 : Blk (w13.alloc (.cells #[.bool vb, .int .i64 vn] 74)) w13.heap.size 74 #[.bool vb, .int .i64 vn] := blk_at rfl
  have hr1 : Reads (w13.alloc (.cells #[.bool vb, .int .i64 vn] 74)) (fb + 1) 3 (some ⟨fb, 0, none⟩) g.length (facs (factsG g)) := by
    have := FacB.reads (Blk.alloc hfb3 (.cells #[.bool vb, .int .i64 vn] 74)) (B := fb + 1) (by omega)
    rw [HFL.out] at this
    exact this
  have hr2 : Reads (w13.alloc (.cells #[.bool vb, .int .i64 vn] 74)) (fc + 1) 3 (some ⟨fc, 0, none⟩) g.length (facs (factsG g)) := by
    have := FacB.reads (Blk.alloc hfc3 (.cells #[.bool vb, .int .i64 vn] 74)) (B := fc + 1) (by omega)
    rw [HFL.out] at this
    exact this
  have heq := equalF_any _ _ g.length g.length g.length g.length (factsG g) (factsG g) _ _ _ hr1 hr2 (by omega) HFL.out HFL.out
  rw [decide_eq_true rfl] at heq
  have HEQ := Lib.hid heq
  clear heq hr1 hr2 hfb3 hfc3
  have hw3 := hw2.alloc hz13 (.cells #[.bool vb, .int .i64 vn] 74)
  go_wp2_with fail
  refine HEQ.out.mono ?_
  rintro e w14 ⟨rfl, d, rfl⟩
  have k0 := (hob3.drewN d).cell 0
  have k1 := (hob3.drewN d).cell 1
  have l0 := (hoc3.drewN d).cell 0
  have l1 := (hoc3.drewN d).cell 1
  simp at k0 k1 l0 l1
  go_wp2
  go_ret
  exact ⟨ret_bool (by simp), (by repeat (first | exact Below.refl _ _ | assumption | refine Below.drew ?_ | refine below_drewN ?_ _ | refine Below.alloc ?_ (by first | omega | (simp; omega) | simp) _ | refine Below.setCell ?_ (by first | omega | (simp; omega) | simp) _))⟩
end Go.Proofs.Ytefechceoeeonaa
