/- The walk of the law SimpOwn. -/
import Derived.Test.YtefechceoeeonaaRoM
namespace Go.Proofs.Ytefechceoeeonaa
open Go.RowKit

set_option maxRecDepth 100000 in
set_option maxHeartbeats 8000000 in
theorem walk_SimpOwn {g : List Rl} {A : Option Addr} {cp : Nat} {row : Nat → List Value} (w : World) (hg : GrIs w w.heap.size g A cp row) (hs : SmG g) :
    Calls Try.prog 5 #[.agg #[.slice A g.length cp]] w fun e w' => e = .returned (.bool true) ∧ Below w.heap.size w w' := by
  have hlit := lit_b ⟨#[120]⟩
  have hone := fun W => one_b (litE ⟨#[120]⟩) _ W (litE_is W ⟨#[120]⟩ (by decide))
  have hroom := fun W (hW : Below w.heap.size w W) => roomyG_any (hg.grow hW) hs
  unfold exCells at hlit hone
  have HL := Lib.hid hlit
  have HO := Lib.hid hone
  have HR := Lib.hid hroom
  have HG := Lib.hid hg
  clear hlit hone hroom hg hs
  go_enter Try.func5, Try.ntmps5
  go_wp2_with fail
  refine (HR.out _ (by repeat (first | exact Below.refl _ _ | assumption | refine Below.drew ?_ | refine below_drewN ?_ _ | refine Below.alloc ?_ (by first | omega | (simp; omega) | simp) _ | refine Below.setCell ?_ (by first | omega | (simp; omega) | simp) _))).mono ?_
  rintro e w1 ⟨⟨bk, rows, L, H, rfl, hR⟩, hb1⟩
  replace hR := hR.mono (lo' := w.heap.size + 1) (by simp) (Nat.le_refl _)
  have hgx : Blk w1 w.heap.size 24 #[.slice A g.length cp] := (blk_at rfl).below hb1 (by first | omega | (simp; omega) | simp)
  have hw1 : Below w.heap.size w w1 := ((Below.refl _ w).alloc (Nat.le_refl _) _).trans (hb1.mono (by first | omega | (simp; omega) | simp))
  have hz1 := hw1.size
  have hl1 := hgx.lt
  clear hb1 HR
  go_upto_region 2 with fail
  replace hR := hR.keep (W' := w1.alloc (.cells #[.slice (some ⟨bk, 0, none⟩) g.length (g.length + 3)] 24)) fun q _ q2 => Below.heap_alloc _ _ _ q2
  replace hgx := hgx.alloc (.cells #[.slice (some ⟨bk, 0, none⟩) g.length (g.length + 3)] 24)
  replace hw1 := hw1.alloc hz1 (.cells #[.slice (some ⟨bk, 0, none⟩) g.length (g.length + 3)] 24)
  have hin : Blk (w1.alloc (.cells #[.slice (some ⟨bk, 0, none⟩) g.length (g.length + 3)] 24)) w1.heap.size 24 #[.slice (some ⟨bk, 0, none⟩) g.length (g.length + 3)] := blk_at rfl
  generalize (w1.alloc (.cells #[.slice (some ⟨bk, 0, none⟩) g.length (g.length + 3)] 24)) = w2 at hR hgx hw1 hin ⊢
  generalize w1.heap.size = ib at hR hin hz1 hl1 ⊢
  clear hz1
  have hil := hin.lt
  obtain ⟨hl, hsl, hker⟩ := simp_own (hR.is (Nat.le_of_lt hil))
  have n0 : w2.cell? ⟨ib, 0, none⟩ = some (.slice (some ⟨bk, 0, none⟩) g.length (g.length + 3)) := hin.cell 0
  have HK := Lib.hid hker
  have HSL := Lib.hid hsl
  clear hker hsl
  go_wp2_with fail
  refine HK.out.mono ?_
  rintro e w3 ⟨hb3, V, c, rows3, x, rfl, hF⟩
  replace hgx := hgx.below hb3 hgx.lt
  replace hin := hin.below hb3 hin.lt
  replace hR := hR.keep fun q _ q2 => hb3.block q (by omega)
  replace hw1 := hw1.trans (hb3.mono hw1.size)
  have hz3 := hw1.size
  have hil3 := hin.lt
  clear hb3 n0 HK
  go_upto_region 3 with fail
  replace hF := (hF.keep (W' := w3.alloc (.cells #[.slice V hl.length c] 24)) fun p hp => World.cell?_alloc_lt w3 _ p hp.2)
  replace hgx := hgx.alloc (.cells #[.slice V hl.length c] 24)
  replace hin := hin.alloc (.cells #[.slice V hl.length c] 24)
  replace hR := hR.keep (W' := w3.alloc (.cells #[.slice V hl.length c] 24)) fun q _ q2 => Below.heap_alloc _ _ _ (by omega)
  replace hw1 := hw1.alloc hz3 (.cells #[.slice V hl.length c] 24)
  have hhx : Blk (w3.alloc (.cells #[.slice V hl.length c] 24)) w3.heap.size 24 #[.slice V hl.length c] := blk_at rfl
  generalize (w3.alloc (.cells #[.slice V hl.length c] 24)) = w4 at hF hgx hin hR hw1 hhx ⊢
  generalize w3.heap.size = hb at hF hhx hz3 hil3 ⊢
  generalize hz2 : w2.heap.size = z2 at hF hil
  clear hz2 hz3
  have hhl := hhx.lt
  have g0 : w4.cell? ⟨w.heap.size, 0, none⟩ = some (.slice A g.length cp) := hgx.cell 0
  have i0 : w4.cell? ⟨ib, 0, none⟩ = some (.slice (some ⟨bk, 0, none⟩) g.length (g.length + 3)) := hin.cell 0
  have hsm := sameg_any (hR.is (Nat.le_of_lt hin.lt)) (HG.out.grow hw1)
  rw [isB_yes rfl] at hsm
  have HSM := Lib.hid hsm
  clear hsm
  go_wp2_with fail
  refine HSM.out.mono ?_
  rintro e w5 ⟨rfl, hb5⟩
  replace hhx := hhx.below hb5 hhx.lt
  replace hin := hin.below hb5 hin.lt
  replace hR := hR.keep fun q _ q2 => hb5.block q (by omega)
  replace hF := hF.keep (W' := w5) fun p hp => hb5.cell (by omega)
  replace hw1 := hw1.trans (hb5.mono hw1.size)
  have hz5 := hb5.size
  clear hb5 g0 i0 hgx HSM HG
  have i0 : w5.cell? ⟨ib, 0, none⟩ = some (.slice (some ⟨bk, 0, none⟩) g.length (g.length + 3)) := hin.cell 0
  go_wp2_with fail
  refine (markedG_any hR (by omega)).mono ?_
  rintro e w6 ⟨rfl, hb6⟩
  replace hhx := hhx.below hb6 hhx.lt
  replace hin := hin.below hb6 hin.lt
  replace hR := hR.keep fun q _ q2 => hb6.block q (by omega)
  replace hF := hF.keep (W' := w6) fun p hp => hb6.cell (by omega)
  replace hw1 := hw1.trans (hb6.mono hw1.size)
  have hz6 : hb < w6.heap.size := hhx.lt
  clear hb6 i0 hz5
  have h0 : w6.cell? ⟨hb, 0, none⟩ = some (.slice V hl.length c) := hhx.cell 0
  go_wp2_with fail
  refine (copied_any (hF.is.more (Nat.le_of_lt hz6)) HSL.out).mono ?_
  rintro e w7 ⟨⟨bk2, rows2, L2, H2, rfl, hW⟩, hb7⟩
  replace hhx := hhx.below hb7 hhx.lt
  replace hin := hin.below hb7 hin.lt
  replace hR := hR.keep fun q _ q2 => hb7.block q (by omega)
  replace hF := hF.keep (W' := w7) fun p hp => hb7.cell (by omega)
  replace hw1 := hw1.trans (hb7.mono hw1.size)
  have hz7 := hw1.size
  have hh7 := hhx.lt
  clear hb7 h0
  go_upto_region 6 with fail
  replace hF := hF.keep (W' := w7.alloc (.cells #[.slice (some ⟨bk2, 0, none⟩) hl.length (hl.length + 3)] 24)) fun p hp => World.cell?_alloc_lt w7 _ p (by omega)
  replace hhx := hhx.alloc (.cells #[.slice (some ⟨bk2, 0, none⟩) hl.length (hl.length + 3)] 24)
  replace hin := hin.alloc (.cells #[.slice (some ⟨bk2, 0, none⟩) hl.length (hl.length + 3)] 24)
  replace hR := hR.keep (W' := w7.alloc (.cells #[.slice (some ⟨bk2, 0, none⟩) hl.length (hl.length + 3)] 24)) fun q _ q2 => Below.heap_alloc _ _ _ (by omega)
  replace hW := hW.keep (W' := w7.alloc (.cells #[.slice (some ⟨bk2, 0, none⟩) hl.length (hl.length + 3)] 24)) fun q _ q2 => Below.heap_alloc _ _ _ q2
  replace hw1 := hw1.alloc hz7 (.cells #[.slice (some ⟨bk2, 0, none⟩) hl.length (hl.length + 3)] 24)
  have hwx : Blk (w7.alloc (.cells #[.slice (some ⟨bk2, 0, none⟩) hl.length (hl.length + 3)] 24)) w7.heap.size 24 #[.slice (some ⟨bk2, 0, none⟩) hl.length (hl.length + 3)] := blk_at rfl
  generalize (w7.alloc (.cells #[.slice (some ⟨bk2, 0, none⟩) hl.length (hl.length + 3)] 24)) = w8 at hF hhx hin hR hW hw1 hwx ⊢
  generalize w7.heap.size = wb at hW hwx hz7 hh7 ⊢
  generalize hz6' : w6.heap.size = z6 at hW hz6
  clear hz6' hz7
  have i0 : w8.cell? ⟨ib, 0, none⟩ = some (.slice (some ⟨bk, 0, none⟩) g.length (g.length + 3)) := hin.cell 0
  have hwl := hwx.lt
  go_wp2_with fail
  refine (spoilG_any hR (by omega)).mono ?_
  rintro e w9 ⟨rfl, ho⟩
  replace hw1 := hw1.trans (ho.below (by omega) hw1.size)
  replace hhx := ho.blk hhx (by omega)
  replace hwx := ho.blk hwx (by omega)
  replace hF := hF.keep (W' := w9) fun p hp => World.cell?_of_block (ho.block _ (by omega) (by omega))
  replace hW := hW.keep fun q q1 q2 => ho.block q (by omega) (by omega)
  clear ho hR hin i0
  have hz9 := hw1.size
  have hwl := hwx.lt
  go_wp2_with fail
  refine (HL.out _).mono ?_
  rintro e wa ⟨rfl, hba⟩
  replace hw1 := hw1.trans (hba.mono hw1.size)
  replace hhx := hhx.below hba hhx.lt
  replace hwx := hwx.below hba hwx.lt
  replace hF := hF.keep (W' := wa) fun p hp => hba.cell (by omega)
  replace hW := hW.keep fun q q1 q2 => hba.block q (by omega)
  clear hba hz9 hwl
  have hz9 := hw1.size
  have hwl := hwx.lt
  go_wp2_with fail
  refine (HO.out _).mono ?_
  rintro e wc ⟨b2, rfl, hG3, hbc⟩
  replace hw1 := hw1.trans (hbc.mono hw1.size)
  replace hhx := hhx.below hbc hhx.lt
  replace hwx := hwx.below hbc hwx.lt
  replace hF := hF.keep (W' := wc) fun p hp => hbc.cell (by omega)
  replace hW := hW.keep fun q q1 q2 => hbc.block q (by omega)
  clear hbc hz9 hwl
  have hz9 := hw1.size
  have hwl := hwx.lt
  have HX := Lib.hid (simp_x hG3)
  clear hG3
  go_wp2_with fail
  refine HX.out.mono ?_
  rintro e wd ⟨hbd, V5, c5, rfl⟩
  replace hw1 := hw1.trans (hbd.mono hw1.size)
  replace hhx := hhx.below hbd hhx.lt
  replace hwx := hwx.below hbd hwx.lt
  replace hF := hF.keep (W' := wd) fun p hp => hbd.cell (by omega)
  replace hW := hW.keep fun q q1 q2 => hbd.block q (by omega)
  clear hbd hz9 hwl HX
  have hz9 := hw1.size
  have hwl := hwx.lt
  go_upto_region 8 with fail
  replace hF := hF.keep (W' := wd.alloc (.cells #[.slice V5 1 c5] 24)) fun p hp => World.cell?_alloc_lt wd _ p (by omega)
  replace hhx := hhx.alloc (.cells #[.slice V5 1 c5] 24)
  replace hwx := hwx.alloc (.cells #[.slice V5 1 c5] 24)
  replace hW := hW.keep (W' := wd.alloc (.cells #[.slice V5 1 c5] 24)) fun q _ q2 => Below.heap_alloc _ _ _ (by omega)
  replace hw1 := hw1.alloc hz9 (.cells #[.slice V5 1 c5] 24)
  have hxx : Blk (wd.alloc (.cells #[.slice V5 1 c5] 24)) wd.heap.size 24 #[.slice V5 1 c5] := blk_at rfl
  generalize (wd.alloc (.cells #[.slice V5 1 c5] 24)) = wf at hF hhx hwx hW hw1 hxx ⊢
  generalize wd.heap.size = xb at hxx hz9 hwl ⊢
  have h0 : wf.cell? ⟨hb, 0, none⟩ = some (.slice V hl.length c) := hhx.cell 0
  have h1 : wf.cell? ⟨wb, 0, none⟩ = some (.slice (some ⟨bk2, 0, none⟩) hl.length (hl.length + 3)) := hwx.cell 0
  have hsm := sameg_any (hF.is.more (Nat.le_of_lt hhx.lt)) (hW.is (Nat.le_of_lt hwx.lt))
  rw [isB_yes rfl] at hsm
  have HSM := Lib.hid hsm
  clear hsm
  go_wp2_with fail
  refine HSM.out.mono ?_
  rintro e wg ⟨rfl, hbg⟩
  replace hw1 := hw1.trans (hbg.mono hw1.size)
  have x0 : wg.cell? ⟨xb, 0, none⟩ = some (.slice V5 1 c5) := (hxx.below hbg hxx.lt).cell 0
  go_wp2
  go_ret
  exact ⟨rfl, hw1⟩
end Go.Proofs.Ytefechceoeeonaa
