/- The walk of the law KernelSame. -/
import Derived.Test.YtlamphneimpdlaaKnP
import Derived.Test.YtlamphneimpdlaaSmB
import Derived.Test.YtlamphneimpdlaaQSpg
import Derived.Test.YtlamphneimpdlaaHC
import Derived.Test.YtlamphneimpdlaaEqF
import Derived.Test.YtlamphneimpdlaaPlA
import Derived.Deep.DeepCutAuto
namespace Go.Proofs.Ytlamphneimpdlaa
open Go.RowKit

def kxG : List Rl := [(nameA, litE ⟨#[120]⟩)]
theorem kx_ker : kerR kxG = 0 := by decide +kernel
theorem kx_same : kerG kxG = kxG := by
  unfold kxG kerG litE
  rw [List.map_cons, List.map_nil, kerE, if_neg (by decide), if_neg (by decide), if_neg (by decide), kerEs]

theorem ker_check {g : List Rl} (h : kerR g = 0) : checkG g = 0 := by
  unfold kerR at h
  split at h
  · rename_i h0; exact absurd h h0
  · rename_i h0; simpa using h0

set_option maxRecDepth 100000 in
set_option maxHeartbeats 8000000 in
theorem walk_KernelSame {g : List Rl} {A : Option Addr} {cp : Nat} {row : Nat → List Value} (s : ByteArray) (i p : Int) (w : World) (hg : GrIs w w.heap.size g A cp row) (hwf : ∀ r ∈ g, WfE r.2) :
    Calls Try.prog 14 #[.agg #[.slice A g.length cp], .string s, .int .i64 i, .int .i64 p] w fun e w' => e = .returned (.bool true) ∧ Below w.heap.size w w' := by
  have hlit := lit_b ⟨#[120]⟩
  have hone := fun W => one_b (litE ⟨#[120]⟩) _ W (litE_is W ⟨#[120]⟩ (by decide))
  have hk := fun W (hW : Below w.heap.size w W) => kernel_any (hg.grow hW)
  have hwl := fun W (hW : Below w.heap.size w W) => well_any (hg.grow hW)
  have hfa := fun W (hW : Below w.heap.size w W) => wfacts_any (hg.grow hW)
  have hat := fun W (hW : Below w.heap.size w W) => at_any (hg.grow hW) hwf i s p
  unfold exCells at hlit hone
  have HL := Lib.hid hlit
  have HO := Lib.hid hone
  have HK := Lib.hid hk
  have HWL := Lib.hid hwl
  have HFA := Lib.hid hfa
  have HAT := Lib.hid hat
  have HWF := Lib.hid hwf
  clear hlit hone hk hwl hfa hat hg hwf
  go_enter Try.func14, Try.ntmps14
  go_wp2_with fail
  refine (HL.out _).mono ?_
  rintro e w1 ⟨rfl, hb1⟩
  have hgx : Blk w1 w.heap.size 24 #[.slice A g.length cp] := (blk_at rfl).below hb1 (by first | omega | (simp; omega) | simp)
  have hw1 : Below w.heap.size w w1 := ((Below.refl _ w).alloc (Nat.le_refl _) _).trans (hb1.mono (by first | omega | (simp; omega) | simp))
  clear hb1
  go_wp2_with fail
  refine (HO.out _).mono ?_
  rintro e w2 ⟨b1, rfl, hG1, hb2⟩
  replace hgx := hgx.below hb2 hgx.lt
  replace hw1 := hw1.trans (hb2.mono hw1.size)
  clear hb2
  have hk1 := kernel_any hG1
  have HK1 := Lib.hid hk1
  clear hk1 hG1
  go_wp2_with fail
  refine HK1.out.mono ?_
  rintro e w3 ⟨hb3, hq⟩
  replace hgx := hgx.below hb3 hgx.lt
  replace hw1 := hw1.trans (hb3.mono hw1.size)
  clear hb3 HK1
  rcases hq with ⟨hbad, _⟩ | ⟨_, V, c, rows, rfl, hF⟩
  · exact absurd kx_ker hbad
  rw [show kerG [(nameA, litE ⟨#[120]⟩)] = kxG from kx_same] at hF
  have hG2 := hF.is
  clear hF
  have hz3 := hw1.size
  have hl3 := hgx.lt
  go_upto_region 2 with fail
  have hbx : Blk (w3.alloc (.cells #[.slice V 1 c] 24)) w3.heap.size 24 #[.slice V 1 c] := blk_at rfl
  replace hgx := hgx.alloc (.cells #[.slice V 1 c] 24)
  replace hw1 := hw1.alloc hz3 (.cells #[.slice V 1 c] 24)
  replace hG2 := hG2.grow ((Below.refl _ w3).alloc (Nat.le_refl _) (.cells #[.slice V 1 c] 24))
  generalize (w3.alloc (.cells #[.slice V 1 c] 24)) = w4 at hbx hgx hw1 hG2 ⊢
  generalize w3.heap.size = xb at hbx ⊢
  clear hz3 hl3
  refine wp_region_l (Below w4.heap.size w4) (fun _ => false) (by kernel_rfl) ?_
  have hC : Below w4.heap.size w4 w4.drew := (Below.refl _ _).drew
  generalize w4.drew = wd at hC ⊢
  have HG2 := Lib.hid hG2
  clear hG2
  apply L.rd (i := 0) rfl (by kernel_rfl) hC rfl
  · intro W hW
    skip
    unfold readW
    go_simp
    first | rfl | exact ⟨rfl, rfl⟩
  first | simp only [Act.put, List.setIfInBounds_toArray, List.set_cons_succ, List.set_cons_zero] | skip
  apply L.rd (i := 1) rfl (by kernel_rfl) hC rfl
  · intro W hW
    skip
    unfold readW
    go_simp
    first | rfl | exact ⟨rfl, rfl⟩
  first | simp only [Act.put, List.setIfInBounds_toArray, List.set_cons_succ, List.set_cons_zero] | skip
  apply L.rd (i := 2) rfl (by kernel_rfl) hC rfl
  · intro W hW
    skip
    unfold readW
    go_simp
    first | rfl | exact ⟨rfl, rfl⟩
  first | simp only [Act.put, List.setIfInBounds_toArray, List.set_cons_succ, List.set_cons_zero] | skip
  apply L.rdg (i := 3) rfl (by kernel_rfl) hC (by kernel_rfl)
  · intro W hW
    have n0 := (hbx.below hW hbx.lt).cell 0
    unfold readW
    go_simp
    first | rfl | exact ⟨rfl, rfl⟩
  first | simp only [Act.put, List.setIfInBounds_toArray, List.set_cons_succ, List.set_cons_zero] | skip
  apply L.oneg (i := 4) rfl (by kernel_rfl) (by kernel_rfl)
  unfold stepT
  go_simp
  go_at_call 18
  refine (HL.out _).mono ?_
  rintro e wn ⟨rfl, hbn⟩
  replace hC := hC.trans (hbn.mono hC.size)
  clear hbn
  refine ⟨_, rfl, hC, ?_⟩
  first | simp only [Act.put, List.setIfInBounds_toArray, List.set_cons_succ, List.set_cons_zero] | skip
  apply L.oneg (i := 5) rfl (by kernel_rfl) (by kernel_rfl)
  unfold stepT
  go_simp
  go_at_call 16
  refine (HO.out _).mono ?_
  rintro e wn ⟨b2, rfl, hG3, hbn⟩
  replace hC := hC.trans (hbn.mono hC.size)
  clear hbn
  refine ⟨_, rfl, hC, ?_⟩
  first | simp only [Act.put, List.setIfInBounds_toArray, List.set_cons_succ, List.set_cons_zero] | skip
  have hsm := sameg_any (HG2.out.grow hC) hG3
  rw [show isB (kxG = [(nameA, litE ⟨#[120]⟩)]) = true from isB_yes rfl] at hsm
  have HSM := Lib.hid hsm
  clear hsm hG3
  apply L.oneg (i := 6) rfl (by kernel_rfl) (by kernel_rfl)
  unfold stepT
  go_simp
  go_at_call 52
  refine HSM.out.mono ?_
  rintro e wn ⟨rfl, hbn⟩
  replace hC := hC.trans (hbn.mono hC.size)
  clear hbn
  refine ⟨_, rfl, hC, ?_⟩
  first | simp only [Act.put, List.setIfInBounds_toArray, List.set_cons_succ, List.set_cons_zero] | skip
  apply L.rdg (i := 7) rfl (by kernel_rfl) hC (by kernel_rfl)
  · intro W hW
    skip
    unfold readW
    go_simp
    first | rfl | exact ⟨rfl, rfl⟩
  first | simp only [Act.put, List.setIfInBounds_toArray, List.set_cons_succ, List.set_cons_zero] | skip
  apply L.rd (i := 8) rfl (by kernel_rfl) hC rfl
  · intro W hW
    skip
    unfold readW
    go_simp
    first | rfl | exact ⟨rfl, rfl⟩
  first | simp only [Act.put, List.setIfInBounds_toArray, List.set_cons_succ, List.set_cons_zero] | skip
  refine L.done (by kernel_rfl) ?_
  replace hgx := hgx.below hC hgx.lt
  replace hw1 := hw1.trans (hC.mono hw1.size)
  clear hC hbx HG2 HSM HL HO
  have g0 : wn.cell? ⟨w.heap.size, 0, none⟩ = some (.slice A g.length cp) := hgx.cell 0
  go_wp2_with fail
  refine (HK.out _ hw1).mono ?_
  rintro e w5 ⟨hb5, hq⟩
  replace hgx := hgx.below hb5 hgx.lt
  replace hw1 := hw1.trans (hb5.mono hw1.size)
  clear hb5 g0
  have hz5 := hw1.size
  rcases hq with ⟨hbad, rfl⟩ | ⟨hk0, V', c', rows', rfl, hF⟩
  · have hxb : (kerR g != 0) = true := by rw [bne_iff_ne]; exact hbad
    generalize kerR g = x at hxb
    clear hbad
    go_wp2
    go_ret
    exact ⟨rfl, (by repeat (first | exact Below.refl _ _ | assumption | refine Below.drew ?_ | refine below_drewN ?_ _ | refine Below.alloc ?_ (by first | omega | (simp; omega) | simp) _ | refine Below.setCell ?_ (by first | omega | (simp; omega) | simp) _))⟩
  have hc0 := ker_check hk0
  have hH := hF.is
  clear hF hk0
  have hgl := hgx.lt
  replace hgx := hgx.alloc (.cells #[.slice V' g.length c'] 24)
  replace hw1 := hw1.alloc hz5 (.cells #[.slice V' g.length c'] 24)
  replace hH := hH.grow ((Below.refl _ w5).alloc (Nat.le_refl _) (.cells #[.slice V' g.length c'] 24))
  have hhx : Blk (w5.alloc (.cells #[.slice V' g.length c'] 24)) w5.heap.size 24 #[.slice V' g.length c'] := blk_at rfl
  have hck := fun W (hW : Below (w5.alloc (.cells #[.slice V' g.length c'] 24)).heap.size (w5.alloc (.cells #[.slice V' g.length c'] 24)) W) => gcheck_any (hH.grow hW)
  have hwl := fun W (hW : Below (w5.alloc (.cells #[.slice V' g.length c'] 24)).heap.size (w5.alloc (.cells #[.slice V' g.length c'] 24)) W) => well_any (hH.grow hW)
  have hfa := fun W (hW : Below (w5.alloc (.cells #[.slice V' g.length c'] 24)).heap.size (w5.alloc (.cells #[.slice V' g.length c'] 24)) W) => wfacts_any (hH.grow hW)
  have hat := fun W (hW : Below (w5.alloc (.cells #[.slice V' g.length c'] 24)).heap.size (w5.alloc (.cells #[.slice V' g.length c'] 24)) W) => at_any (hH.grow hW) (wf_kerG HWF.out) i s p
  have hb0 : Below (w5.alloc (.cells #[.slice V' g.length c'] 24)).heap.size (w5.alloc (.cells #[.slice V' g.length c'] 24)) (w5.alloc (.cells #[.slice V' g.length c'] 24)) := Below.refl _ _
  simp only [kerG_len] at hck hwl hfa hat
  unfold FactsQ at hfa
  rw [kerG_len] at hfa
  have HCH := Lib.hid hck
  have HWH := Lib.hid hwl
  have HFH := Lib.hid hfa
  have HAH := Lib.hid hat
  clear hck hwl hfa hat hH
  go_upto_region 5 with fail
  generalize (w5.alloc (.cells #[.slice V' g.length c'] 24)) = w6 at hgx hw1 hhx hb0 HCH HWH HFH HAH ⊢
  generalize w5.heap.size = hb at hhx ⊢
  clear hz5 hgl
  have h0 : w6.cell? ⟨hb, 0, none⟩ = some (.slice V' g.length c') := hhx.cell 0
  have g0 : w6.cell? ⟨w.heap.size, 0, none⟩ = some (.slice A g.length cp) := hgx.cell 0
  have hat_ := fun v v' x x' => at_ker (i := i) (s := s) (p := p) (v := v) (v' := v') (x := x) (x' := x') hc0
  by_cases hch : checkG (kerG g) = 0
  rotate_left
  · have hxb : (checkG (kerG g) != 0) = true := by rw [bne_iff_ne]; exact hch
    generalize checkG (kerG g) = x at hxb HCH
    clear hch hat_
    go_wp2_with fail
    refine (HCH.out _ hb0).mono ?_
    rintro e w7 ⟨rfl, hb7⟩
    replace hgx := hgx.below hb7 hgx.lt
    replace hhx := hhx.below hb7 hhx.lt
    replace hw1 := hw1.trans (hb7.mono hw1.size)
    replace hb0 := hb0.trans (hb7.mono hb0.size)
    clear hb7 g0 h0
    have g0 : w7.cell? ⟨w.heap.size, 0, none⟩ = some (.slice A g.length cp) := hgx.cell 0
    have h0 : w7.cell? ⟨hb, 0, none⟩ = some (.slice V' g.length c') := hhx.cell 0
    go_wp2
    go_ret
    exact ⟨rfl, hw1⟩
  have HAX := Lib.hid (fun v v' x x' => hat_ v v' x x' hch)
  have hwk := well_ker hc0 hch
  have R := right_of hc0
  have hfk := facts_ker R.rt
  have h10 := R.ten
  have hfl : (factsG g).length = g.length := facts_len g
  have hso := run_same_out
  rw [hch] at HCH
  rw [hfk] at HFH
  unfold WellQ at HWH HWL
  rw [hwk] at HWH
  generalize wellG g = wr at HWH HWL
  obtain ⟨wn1, we1⟩ := wr
  have HC0 := Lib.hid hc0
  have HCH0 := Lib.hid hch
  have HFL := Lib.hid hfl
  clear hat_ hwk R hfk hfl hc0 hch
  go_wp2_with fail
  refine (HCH.out _ hb0).mono ?_
  rintro e w7 ⟨rfl, hb7⟩
  replace hgx := hgx.below hb7 hgx.lt
  replace hhx := hhx.below hb7 hhx.lt
  replace hw1 := hw1.trans (hb7.mono hw1.size)
  replace hb0 := hb0.trans (hb7.mono hb0.size)
  clear hb7 g0 h0
  have g0 : w7.cell? ⟨w.heap.size, 0, none⟩ = some (.slice A g.length cp) := hgx.cell 0
  have h0 : w7.cell? ⟨hb, 0, none⟩ = some (.slice V' g.length c') := hhx.cell 0
  go_wp2_with fail
  refine (HWL.out _ hw1).mono ?_
  rintro e w8 ⟨rfl, hb8⟩
  replace hgx := hgx.below hb8 hgx.lt
  replace hhx := hhx.below hb8 hhx.lt
  replace hw1 := hw1.trans (hb8.mono hw1.size)
  replace hb0 := hb0.trans (hb8.mono hb0.size)
  clear hb8 g0 h0
  have g0 : w8.cell? ⟨w.heap.size, 0, none⟩ = some (.slice A g.length cp) := hgx.cell 0
  have h0 : w8.cell? ⟨hb, 0, none⟩ = some (.slice V' g.length c') := hhx.cell 0
  go_wp2_with fail
  refine (HWH.out _ hb0).mono ?_
  rintro e w9 ⟨rfl, hb9⟩
  replace hgx := hgx.below hb9 hgx.lt
  replace hhx := hhx.below hb9 hhx.lt
  replace hw1 := hw1.trans (hb9.mono hw1.size)
  replace hb0 := hb0.trans (hb9.mono hb0.size)
  clear hb9 g0 h0
  have g0 : w9.cell? ⟨w.heap.size, 0, none⟩ = some (.slice A g.length cp) := hgx.cell 0
  have h0 : w9.cell? ⟨hb, 0, none⟩ = some (.slice V' g.length c') := hhx.cell 0
  go_wp2_with fail
  refine (HFA.out _ hw1).mono ?_
  rintro e w10 ⟨hb10, hq⟩
  replace hgx := hgx.below hb10 hgx.lt
  replace hhx := hhx.below hb10 hhx.lt
  replace hw1 := hw1.trans (hb10.mono hw1.size)
  replace hb0 := hb0.trans (hb10.mono hb0.size)
  clear hb10 g0 h0
  have g0 : w10.cell? ⟨w.heap.size, 0, none⟩ = some (.slice A g.length cp) := hgx.cell 0
  have h0 : w10.cell? ⟨hb, 0, none⟩ = some (.slice V' g.length c') := hhx.cell 0
  rcases hq with ⟨hbad, _⟩ | ⟨_, fb, rfl, hfb, -⟩
  · exact absurd HC0.out hbad
  have hfl1 := Blk.lt hfb
  go_wp2_with fail
  refine (HFH.out _ hb0).mono ?_
  rintro e w11 ⟨hb11, hq⟩
  have hfb1 := Blk.below hfb hb11 hfl1
  replace hgx := hgx.below hb11 hgx.lt
  replace hhx := hhx.below hb11 hhx.lt
  replace hw1 := hw1.trans (hb11.mono hw1.size)
  replace hb0 := hb0.trans (hb11.mono hb0.size)
  clear hb11 g0 h0
  have g0 : w11.cell? ⟨w.heap.size, 0, none⟩ = some (.slice A g.length cp) := hgx.cell 0
  have h0 : w11.cell? ⟨hb, 0, none⟩ = some (.slice V' g.length c') := hhx.cell 0
  rcases hq with ⟨hbad, _⟩ | ⟨_, fc, rfl, hfc, -⟩
  · exact absurd HCH0.out hbad
  have hfl2 := Blk.lt hfc
  have hfl3 := Blk.lt hfb1
  clear hfb hfl1
  go_wp2_with fail
  refine (HAT.out _ hw1).mono ?_
  rintro e w12 ⟨v1, x1, hA1, rfl, hb12⟩
  have hfb2 := Blk.below hfb1 hb12 hfl3
  have hfc2 := Blk.below hfc hb12 hfl2
  replace hgx := hgx.below hb12 hgx.lt
  replace hhx := hhx.below hb12 hhx.lt
  replace hw1 := hw1.trans (hb12.mono hw1.size)
  replace hb0 := hb0.trans (hb12.mono hb0.size)
  clear hb12 g0 h0
  have g0 : w12.cell? ⟨w.heap.size, 0, none⟩ = some (.slice A g.length cp) := hgx.cell 0
  have h0 : w12.cell? ⟨hb, 0, none⟩ = some (.slice V' g.length c') := hhx.cell 0
  have HA1 := Lib.hid hA1
  clear hfb1 hfc hfl2 hfl3 hA1
  have hz12 := hw1.size
  have hl12 := hgx.lt
  have hl13 := hhx.lt
  obtain ⟨vb, vn, hvo⟩ : ∃ (b : Bool) (n : Int), outV v1 = .agg #[.bool b, .int .i64 n] := by cases v1 <;> exact ⟨_, _, rfl⟩
  have HVO := Lib.hid hvo
  rw [hvo]
  clear hvo
  have hob : Blk (w12.alloc (.cells #[.bool vb, .int .i64 vn] 96)) w12.heap.size 96 #[.bool vb, .int .i64 vn] := blk_at rfl
  have hb1' := hb0.alloc (by have := hb0.size; omega) (.cells #[.bool vb, .int .i64 vn] 96)
  go_wp2_with fail
  refine (HAH.out _ hb1').mono ?_
  rintro e w13 ⟨v2, x2, hA2, rfl, hb13⟩
  obtain ⟨rfl, rfl⟩ := HAX.out _ _ _ _ HA1.out hA2
  rw [HVO.out]
  have hob2 := hob.below hb13 hob.lt
  have hw2 := (hw1.alloc hz12 (.cells #[.bool vb, .int .i64 vn] 96)).trans (hb13.mono (by simp; omega))
  have hfb3 := Blk.below (Blk.alloc hfb2 (.cells #[.bool vb, .int .i64 vn] 96)) hb13 (by have := Blk.lt hfb2; simp; omega)
  have hfc3 := Blk.below (Blk.alloc hfc2 (.cells #[.bool vb, .int .i64 vn] 96)) hb13 (by have := Blk.lt hfc2; simp; omega)
  have hol2 := hob2.lt
  have hz13 := hw2.size
  clear hA2 HA1 HAX hob hb13 hfb2 hfc2 hb1' HVO
  have hob3 := hob2.alloc (.cells #[.bool vb, .int .i64 vn] 96)
  have hoc3 : Blk (w13.alloc (.cells #[.bool vb, .int .i64 vn] 96)) w13.heap.size 96 #[.bool vb, .int .i64 vn] := blk_at rfl
  have hr1 : Reads (w13.alloc (.cells #[.bool vb, .int .i64 vn] 96)) (fb + 1) 3 (some ⟨fb, 0, none⟩) g.length (facs (factsG g)) := by
    have := FacB.reads (Blk.alloc hfb3 (.cells #[.bool vb, .int .i64 vn] 96)) (B := fb + 1) (by omega)
    rw [HFL.out] at this
    exact this
  have hr2 : Reads (w13.alloc (.cells #[.bool vb, .int .i64 vn] 96)) (fc + 1) 3 (some ⟨fc, 0, none⟩) g.length (facs (factsG g)) := by
    have := FacB.reads (Blk.alloc hfc3 (.cells #[.bool vb, .int .i64 vn] 96)) (B := fc + 1) (by omega)
    rw [HFL.out] at this
    exact this
  have heq := equalF_any _ _ g.length g.length g.length g.length (factsG g) (factsG g) _ _ _ hr1 hr2 (by omega) HFL.out HFL.out
  rw [decide_eq_true rfl] at heq
  have HEQ := Lib.hid heq
  clear heq hr1 hr2 hfb3 hfc3
  have hw3 := hw2.alloc hz13 (.cells #[.bool vb, .int .i64 vn] 96)
  go_wp2_with fail
  refine HEQ.out.mono ?_
  rintro e w14 ⟨rfl, d, rfl⟩
  have k0 := (hob3.drewN d).cell 0
  have k1 := (hob3.drewN d).cell 1
  have l0 := (hoc3.drewN d).cell 0
  have l1 := (hoc3.drewN d).cell 1
  simp at k0 k1 l0 l1
  go_wp2
  go_ret
  exact ⟨by simp, (by repeat (first | exact Below.refl _ _ | assumption | refine Below.drew ?_ | refine below_drewN ?_ _ | refine Below.alloc ?_ (by first | omega | (simp; omega) | simp) _ | refine Below.setCell ?_ (by first | omega | (simp; omega) | simp) _))⟩
end Go.Proofs.Ytlamphneimpdlaa
