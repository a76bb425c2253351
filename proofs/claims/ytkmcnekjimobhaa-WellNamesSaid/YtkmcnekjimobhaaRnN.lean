/- The walk of the law WellNames. -/
import Derived.Test.YtkmcnekjimobhaaRnQ
import Derived.Test.YtkmcnekjimobhaaRnR
import Derived.Test.YtkmcnekjimobhaaHC
import Derived.Test.YtkmcnekjimobhaaGH
namespace Go.Proofs.Ytkmcnekjimobhaa
open Go.RowKit

set_option maxRecDepth 100000 in
set_option maxHeartbeats 8000000 in
theorem walk_WellNames {g : List Rl} {A : Option Addr} {cp : Nat} {row : Nat → List Value} (s : ByteArray) (i p : Int) (w : World) (hg : GrIs w w.heap.size g A cp row) (hwf : ∀ r ∈ g, WfE r.2) :
    Calls Try.prog 9 #[.agg #[.slice A g.length cp], .string s, .int .i64 i, .int .i64 p] w fun e w' => e = .returned (.bool true) ∧ Below w.heap.size w w' := by
  have hso := run_same_out
  have hlit := lit_b ⟨#[120]⟩
  have hone := fun W => one_b (litE ⟨#[120]⟩) _ W (litE_is W ⟨#[120]⟩ (by decide))
  have hck := fun W (hW : Below w.heap.size w W) => gcheck_any (hg.grow hW)
  have hrn := fun (h0 : checkG g = 0) W (hW : Below w.heap.size w W) => rename_any (hg.grow hW) h0
  have hwl := fun W (hW : Below w.heap.size w W) => well_any (hg.grow hW)
  have hat := fun W (hW : Below w.heap.size w W) => at_any (hg.grow hW) hwf i s p
  unfold exCells at hlit hone
  have HL := Lib.hid hlit
  have HO := Lib.hid hone
  have HCK := Lib.hid hck
  have HRN := Lib.hid hrn
  have HWL := Lib.hid hwl
  have HAT := Lib.hid hat
  have HWF := Lib.hid hwf
  clear hlit hone hck hrn hwl hat hg hwf
  go_enter Try.func9, Try.ntmps9
  go_wp2_with fail
  refine (HL.out _).mono ?_
  rintro e w1 ⟨rfl, hb1⟩
  have hgx : Blk w1 w.heap.size 24 #[.slice A g.length cp] := (blk_at rfl).below hb1 (by first | omega | (simp; omega) | simp)
  have hw1 : Below w.heap.size w w1 := ((Below.refl _ w).alloc (Nat.le_refl _) _).trans (hb1.mono (by first | omega | (simp; omega) | simp))
  clear hb1
  go_wp2_with fail
  refine (HO.out _).mono ?_
  rintro e w2 ⟨b1, rfl, hG1, hb2⟩
  replace hgx := hgx.below hb2 hgx.lt
  replace hw1 := hw1.trans (hb2.mono hw1.size)
  clear hb2
  have hx := well_any hG1
  unfold WellQ at hx
  rw [x_well] at hx
  have HX := Lib.hid hx
  clear hx hG1
  go_wp2_with fail
  refine HX.out.mono ?_
  rintro e w3 ⟨rfl, hb3⟩
  replace hgx := hgx.below hb3 hgx.lt
  replace hw1 := hw1.trans (hb3.mono hw1.size)
  have g0 : w3.cell? ⟨w.heap.size, 0, none⟩ = some (.slice A g.length cp) := hgx.cell 0
  clear hb3 HX
  by_cases hc0 : checkG g = 0
  rotate_left
  · have hxb : (checkG g != 0) = true := by rw [bne_iff_ne]; exact hc0
    generalize checkG g = x at hxb HCK
    clear hc0
    go_wp2_with fail
    refine (HCK.out _ hw1).mono ?_
    rintro e w7 ⟨rfl, hb7⟩
    replace hw1 := hw1.trans (hb7.mono hw1.size)
    go_wp2
    go_ret
    exact ⟨rfl, hw1⟩
  have hwk := rn_well hc0
  have hrn := HRN.out hc0
  have HAX := Lib.hid (fun v v' x x' => at_rn (i := i) (s := s) (p := p) (v := v) (v' := v') (x := x) (x' := x') hc0)
  rw [hc0] at HCK
  clear HRN
  have HRN := Lib.hid hrn
  have HC0 := Lib.hid hc0
  clear hrn hc0
  go_wp2_with fail
  refine (HCK.out _ hw1).mono ?_
  rintro e w5 ⟨rfl, hb5⟩
  replace hgx := hgx.below hb5 hgx.lt
  replace hw1 := hw1.trans (hb5.mono hw1.size)
  clear g0
  have g0 : w5.cell? ⟨w.heap.size, 0, none⟩ = some (.slice A g.length cp) := hgx.cell 0
  clear hb5
  go_wp2_with fail
  refine (HRN.out _ hw1).mono ?_
  rintro e w6 ⟨hb6, V', c', rows, rfl, hH⟩
  replace hgx := hgx.below hb6 hgx.lt
  replace hw1 := hw1.trans (hb6.mono hw1.size)
  clear g0 hb6
  have hz6 := hw1.size
  have hgl := hgx.lt
  replace hgx := hgx.alloc (.cells #[.slice V' g.length c'] 24)
  replace hw1 := hw1.alloc hz6 (.cells #[.slice V' g.length c'] 24)
  replace hH := hH.grow ((Below.refl _ w6).alloc (Nat.le_refl _) (.cells #[.slice V' g.length c'] 24))
  have hhx : Blk (w6.alloc (.cells #[.slice V' g.length c'] 24)) w6.heap.size 24 #[.slice V' g.length c'] := blk_at rfl
  have hwh := fun W (hW : Below (w6.alloc (.cells #[.slice V' g.length c'] 24)).heap.size (w6.alloc (.cells #[.slice V' g.length c'] 24)) W) => well_any (hH.grow hW)
  have hah := fun W (hW : Below (w6.alloc (.cells #[.slice V' g.length c'] 24)).heap.size (w6.alloc (.cells #[.slice V' g.length c'] 24)) W) => at_any (hH.grow hW) (wf_rnG HWF.out) i s p
  have hb0 : Below (w6.alloc (.cells #[.slice V' g.length c'] 24)).heap.size (w6.alloc (.cells #[.slice V' g.length c'] 24)) (w6.alloc (.cells #[.slice V' g.length c'] 24)) := Below.refl _ _
  simp only [rnG_len] at hwh hah
  have HWH := Lib.hid hwh
  have HAH := Lib.hid hah
  clear hwh hah hH
  unfold WellQ at HWH HWL
  rw [hwk] at HWH
  generalize wellG g = wr at HWH HWL
  obtain ⟨wn1, we1⟩ := wr
  clear hwk
  go_upto_region 7 with fail
  generalize (w6.alloc (.cells #[.slice V' g.length c'] 24)) = w7 at hgx hw1 hhx hb0 HWH HAH ⊢
  generalize w6.heap.size = hb at hhx ⊢
  clear hz6 hgl
  have h0 : w7.cell? ⟨hb, 0, none⟩ = some (.slice V' g.length c') := hhx.cell 0
  have g0 : w7.cell? ⟨w.heap.size, 0, none⟩ = some (.slice A g.length cp) := hgx.cell 0
  go_wp2_with fail
  refine (HWL.out _ hw1).mono ?_
  rintro e w8 ⟨rfl, hb8⟩
  replace hgx := hgx.below hb8 hgx.lt
  replace hhx := hhx.below hb8 hhx.lt
  replace hw1 := hw1.trans (hb8.mono hw1.size)
  replace hb0 := hb0.trans (hb8.mono hb0.size)
  clear hb8 g0 h0
  have g0 : w8.cell? ⟨w.heap.size, 0, none⟩ = some (.slice A g.length cp) := hgx.cell 0
  have h0 : w8.cell? ⟨hb, 0, none⟩ = some (.slice V' g.length c') := hhx.cell 0
  go_wp2_with fail
  refine (HWH.out _ hb0).mono ?_
  rintro e w9 ⟨rfl, hb9⟩
  replace hgx := hgx.below hb9 hgx.lt
  replace hhx := hhx.below hb9 hhx.lt
  replace hw1 := hw1.trans (hb9.mono hw1.size)
  replace hb0 := hb0.trans (hb9.mono hb0.size)
  clear hb9 g0 h0
  have g0 : w9.cell? ⟨w.heap.size, 0, none⟩ = some (.slice A g.length cp) := hgx.cell 0
  have h0 : w9.cell? ⟨hb, 0, none⟩ = some (.slice V' g.length c') := hhx.cell 0
  go_wp2_with fail
  refine (HAT.out _ hw1).mono ?_
  rintro e w12 ⟨v1, x1, hA1, rfl, hb12⟩
  replace hgx := hgx.below hb12 hgx.lt
  replace hhx := hhx.below hb12 hhx.lt
  replace hw1 := hw1.trans (hb12.mono hw1.size)
  replace hb0 := hb0.trans (hb12.mono hb0.size)
  clear hb12 g0 h0
  have g0 : w12.cell? ⟨w.heap.size, 0, none⟩ = some (.slice A g.length cp) := hgx.cell 0
  have h0 : w12.cell? ⟨hb, 0, none⟩ = some (.slice V' g.length c') := hhx.cell 0
  have HA1 := Lib.hid hA1
  have hz12 := hw1.size
  have hl12 := hgx.lt
  have hl13 := hhx.lt
  obtain ⟨vb, vn, hvo⟩ : ∃ (b : Bool) (n : Int), outV v1 = .agg #[.bool b, .int .i64 n] := by cases v1 <;> exact ⟨_, _, rfl⟩
  have HVO := Lib.hid hvo
  rw [hvo]
  clear hvo hA1
  have hob : Blk (w12.alloc (.cells #[.bool vb, .int .i64 vn] 41)) w12.heap.size 41 #[.bool vb, .int .i64 vn] := blk_at rfl
  have hb1' := hb0.alloc (by have := hb0.size; omega) (.cells #[.bool vb, .int .i64 vn] 41)
  go_wp2_with fail
  refine (HAH.out _ hb1').mono ?_
  rintro e w13 ⟨v2, x2, hA2, rfl, hb13⟩
  obtain ⟨rfl, rfl⟩ := HAX.out _ _ _ _ HA1.out hA2
  rw [HVO.out]
  have hob2 := hob.below hb13 hob.lt
  have hw2 := (hw1.alloc hz12 (.cells #[.bool vb, .int .i64 vn] 41)).trans (hb13.mono (by simp; omega))
  have hol2 := hob2.lt
  have hz13 := hw2.size
  clear hA2 HA1 HAX hob hb13 hb1' HVO
  have hob3 := hob2.alloc (.cells #[.bool vb, .int .i64 vn] 41)
  have hoc3 : Blk (w13.alloc (.cells #[.bool vb, .int .i64 vn] 41)) w13.heap.size 41 #[.bool vb, .int .i64 vn] := blk_at rfl
  have hw3 := hw2.alloc hz13 (.cells #[.bool vb, .int .i64 vn] 41)
  have hsz3 : w13.heap.size < (w13.alloc (.cells #[.bool vb, .int .i64 vn] 41)).heap.size := by simp
  go_wp2_with fail
  refine (HL.out _).mono ?_
  rintro e w14 ⟨rfl, hb14⟩
  have hob4 := hob3.below hb14 hob3.lt
  have hoc4 := hoc3.below hb14 hoc3.lt
  have hw4 := hw3.trans (hb14.mono hw3.size)
  clear hb14 hob3 hoc3 hw3
  go_wp2_with fail
  refine (HO.out _).mono ?_
  rintro e w15 ⟨b2, rfl, hG2, hb15⟩
  have hob5 := hob4.below hb15 hob4.lt
  have hoc5 := hoc4.below hb15 hoc4.lt
  have hw5 := hw4.trans (hb15.mono hw4.size)
  have hax := at_any hG2 (wf_xG _) 0 ⟨#[120]⟩ 0
  have HAXX := Lib.hid hax
  clear hb15 hob4 hoc4 hw4 hax hG2
  go_wp2_with fail
  refine HAXX.out.mono ?_
  rintro e w16 ⟨v, x, hv, rfl, hb16⟩
  obtain ⟨rfl, rfl⟩ := x_at hv
  have hob6 := hob5.below hb16 hob5.lt
  have hoc6 := hoc5.below hb16 hoc5.lt
  have hw6 := hw5.trans (hb16.mono hw5.size)
  have hov : outV (some 1) = .agg #[.bool true, .int .i64 1] := rfl
  rw [hov]
  have k0 := hob6.cell 0
  have k1 := hob6.cell 1
  have l0 := hoc6.cell 0
  have l1 := hoc6.cell 1
  simp at k0 k1 l0 l1
  have hl1 := hob6.lt
  have hl2 := hoc6.lt
  have hz16 := hw6.size
  clear hb16 hob5 hoc5 hw5 hv HAXX hov
  go_wp2
  go_ret
  exact ⟨by simp, (by repeat (first | exact Below.refl _ _ | assumption | refine Below.drew ?_ | refine below_drewN ?_ _ | refine Below.alloc ?_ (by first | omega | (simp; omega) | simp) _ | refine Below.setCell ?_ (by first | omega | (simp; omega) | simp) _))⟩
end Go.Proofs.Ytkmcnekjimobhaa
