/- The walk of the law DiffSelf. -/
import Derived.Test.YtkmcnekjimobhaaDfA
import Derived.Test.YtkmcnekjimobhaaRnP
import Derived.Test.YtkmcnekjimobhaaRnR
import Derived.Test.YtkmcnekjimobhaaLsD
import Derived.Test.YtkmcnekjimobhaaXD
namespace Go.Proofs.Ytkmcnekjimobhaa
open Go.RowKit

theorem wf_rnD {f : ByteArray → ByteArray} {e : Ex} (h : WfE e) : WfE (rnE f e) := by
  induction h with
  | mk k a b c d t ks hk ha hb hc hd _ ih =>
    rw [rnE_mk]
    exact .mk _ _ _ _ _ _ _ hk ha hb hc hd fun x hx => by obtain ⟨e, he, rfl⟩ := List.mem_map.1 hx; exact ih e he
theorem wf_rnGD {g : List Rl} (h : ∀ r ∈ g, WfE r.2) : ∀ r ∈ rnG g, WfE r.2 := fun r hr => by
  obtain ⟨r0, h0, rfl⟩ := List.mem_map.1 hr
  exact wf_rnD (h r0 h0)
theorem wf_xD : ∀ r ∈ [(nameA, litE ⟨#[120]⟩)], WfE r.2 := fun r hr => by
  simp only [List.mem_singleton] at hr
  subst hr
  exact .mk _ _ _ _ _ _ _ (by unfold I64; omega) (by unfold U64; omega) (by unfold U64; omega) (by unfold U64; omega) (by unfold U64; omega) (fun e h => by cases h)
theorem xy_okD : AlphaOk [120, 121] := by
  refine ⟨by decide, by decide, fun i h1 h2 => ?_⟩
  obtain rfl : i = 1 := by simp at h2; omega
  decide
theorem xx_look : LookOk [(nameA, litE ⟨#[120]⟩)] ⟨#[120, 121]⟩ 1 := ⟨by decide +kernel, xy_okD, 1, rfl, by decide, by decide +kernel⟩
theorem sh_few : ∀ m < 4, ∀ k < 5, shN m (k + 1) ≤ 5000 := by decide
/-- the same texts are accepted -/
theorem acc_rn {g : List Rl} (h0 : checkG g = 0) (s : ByteArray) : accG (rnG g) s = accG g s := by
  unfold accG
  rw [rn_lookG h0]
  by_cases hl : lookG g s = 0
  · obtain ⟨W, h60⟩ := look_zero hl
    have hpos := W.right.pos
    obtain ⟨r, hr⟩ : ∃ r, g[0]? = some r := ⟨_, List.getElem?_eq_getElem hpos⟩
    obtain ⟨n, o, he⟩ := ends (s := s.data.toList) W (p := 0) (by omega) (W.good (List.mem_of_getElem? hr))
    have h1 : outG g s = o := outG_is hr ⟨n, he⟩
    have h2 : outG (rnG g) s = o := outG_is (r := (nmG g r.1, rnE (nmG g) r.2)) (by rw [rnG_at, hr]; rfl) ((rn_sem W.right (W.right.rt r (List.mem_of_getElem? hr))).2 ⟨n, he⟩)
    rw [h1, h2]
  · simp [hl]
/-- a grammar and itself, or itself by other names: nothing -/
theorem least_none {g h : List Rl} {a : ByteArray} {n : Int} {w : World} {e : Ending} {w' : World} (hq : LeastQ g h a n w e w') (h1 : LookOk g a n) (h2 : LookOk h a n) (hs : ∀ u, accG g u = accG h u) :
    e = .returned (.tuple #[.string ⟨#[]⟩, .int .i64 0, .int .i64 12]) ∧ Below w.heap.size w w' := by
  obtain ⟨hb, hq⟩ := hq
  rcases hq with ⟨hbad, _⟩ | ⟨_, _, rfl⟩ | ⟨_, j, s, _, _, hps, _⟩
  · exact absurd ⟨h1, h2⟩ hbad
  · exact ⟨rfl, hb⟩
  · rw [hs s] at hps
    cases hh : accG h s <;> rw [hh] at hps <;> cases hps

/-- the grammar's box, in whatever order -/
structure DsC (gv : Value) (w W : World) : Prop where
  box : Blk W w.heap.size 24 #[gv]
  bel : Below w.heap.size w W

set_option maxRecDepth 100000 in
set_option maxHeartbeats 8000000 in
theorem walk_DiffSelf {g : List Rl} {A : Option Addr} {cp : Nat} {row : Nat → List Value} (a : ByteArray) (n : Int) (w : World) (hg : GrIs w w.heap.size g A cp row) (hwf : ∀ r ∈ g, WfE r.2) :
    Calls Try.prog 8 #[.agg #[.slice A g.length cp], .string a, .int .i64 n] w fun e w' => e = .returned (.bool true) ∧ Below w.heap.size w w' := by
  have hlit := lit_b ⟨#[120]⟩
  have hone := fun W => one_b (litE ⟨#[120]⟩) _ W (litE_is W ⟨#[120]⟩ (by decide))
  have hrn := fun (h0 : checkG g = 0) W (hW : Below w.heap.size w W) => rename_any (hg.grow hW) h0
  have hwl := fun W (hW : Below w.heap.size w W) => well_any (hg.grow hW)
  have hds := fun W (hW : Below w.heap.size w W) (a' : ByteArray) (k : Nat) (ha : a'.size ≤ 140737488351232) (hk : k ≤ 6) => least_any (hg.grow hW) hwf (hg.grow hW) hwf a' k ha ⟨by omega, by omega⟩
  have hdr := fun W (hW : Below w.heap.size w W) (V : Option Addr) (c : Nat) (rows : Nat → List Value) (hH : GrIs W W.heap.size (rnG g) V c rows) (a' : ByteArray) (k : Nat) (ha : a'.size ≤ 140737488351232) (hk : k ≤ 6) => least_any (hg.grow hW) hwf hH (wf_rnGD hwf) a' k ha ⟨by omega, by omega⟩
  have hsm := fun W => small_any a n W
  have hk5 : wiN n 5 < 5 := wiN_lt n (by decide)
  have hsz := smA_size a
  obtain ⟨a', ha'⟩ : ∃ a', smA a = a' := ⟨_, rfl⟩
  obtain ⟨k, hk⟩ : ∃ k, wiN n 5 = k := ⟨_, rfl⟩
  rw [ha', hk] at hsm
  rw [hk] at hk5
  rw [ha'] at hsz
  have hal := fun W => alpha_any a' W (by omega)
  simp only [rnG_len] at hdr
  unfold exCells at hlit hone
  have HL := Lib.hid hlit
  have HO := Lib.hid hone
  have HRN := Lib.hid hrn
  have HWL := Lib.hid hwl
  have HDS := Lib.hid hds
  have HDR := Lib.hid hdr
  have HSM := Lib.hid hsm
  have HAL := Lib.hid hal
  clear hlit hone hrn hwl hds hdr hsm hal hg hwf ha' hk
  go_enter Try.func8, Try.ntmps8
  go_wp2_with fail
  refine (HL.out _).mono ?_
  rintro e w1 ⟨rfl, hb1⟩
  have hgx : Blk w1 w.heap.size 24 #[.slice A g.length cp] := (blk_at rfl).below hb1 (by first | omega | (simp; omega) | simp)
  have hw1 : Below w.heap.size w w1 := ((Below.refl _ w).alloc (Nat.le_refl _) _).trans (hb1.mono (by first | omega | (simp; omega) | simp))
  clear hb1
  go_wp2_with fail
  refine (HO.out _).mono ?_
  rintro e w2 ⟨b1, rfl, hG1, hb2⟩
  replace hgx := hgx.below hb2 hgx.lt
  replace hw1 := hw1.trans (hb2.mono hw1.size)
  clear hb2
  go_wp2_with fail
  refine (HL.out _).mono ?_
  rintro e w3 ⟨rfl, hb3⟩
  replace hgx := hgx.below hb3 hgx.lt
  replace hw1 := hw1.trans (hb3.mono hw1.size)
  replace hG1 := (hG1.on hb3).more hb3.size
  clear hb3
  go_wp2_with fail
  refine (HO.out _).mono ?_
  rintro e w4 ⟨b2, rfl, hG2, hb4⟩
  replace hgx := hgx.below hb4 hgx.lt
  replace hw1 := hw1.trans (hb4.mono hw1.size)
  replace hG1 := (hG1.on hb4).more hb4.size
  clear hb4
  have hst := least_any hG1 wf_xD hG2 wf_xD ⟨#[120, 121]⟩ 1 (by decide) ⟨by decide, by decide⟩
  have HST := Lib.hid hst
  clear hst hG1 hG2
  go_wp2_with fail
  refine HST.out.mono ?_
  rintro e w5 hq
  obtain ⟨rfl, hb5⟩ := least_none hq xx_look xx_look fun _ => rfl
  replace hgx := hgx.below hb5 hgx.lt
  replace hw1 := hw1.trans (hb5.mono hw1.size)
  clear hb5 HST hq
  go_wp2_with fail
  refine (HSM.out _).mono ?_
  rintro e w6 ⟨rfl, hb6⟩
  replace hgx := hgx.below hb6 hgx.lt
  replace hw1 := hw1.trans (hb6.mono hw1.size)
  clear hb6
  have g0 : w6.cell? ⟨w.heap.size, 0, none⟩ = some (.slice A g.length cp) := hgx.cell 0
  go_wp2_with fail
  refine (HWL.out _ hw1).mono ?_
  rintro e w7 ⟨rfl, hb7⟩
  replace hgx := hgx.below hb7 hgx.lt
  replace hw1 := hw1.trans (hb7.mono hw1.size)
  clear hb7 g0
  have g0 : w7.cell? ⟨w.heap.size, 0, none⟩ = some (.slice A g.length cp) := hgx.cell 0
  by_cases hw0 : (wellG g).2 = 0
  rotate_left
  · have hxb : ((wellG g).2 != 0) = true := by rw [bne_iff_ne]; exact hw0
    generalize wellG g = x at hxb
    clear hw0
    go_wp2
    go_ret
    exact ⟨rfl, hw1⟩
  have hw0x := hw0
  rw [hw0]
  generalize (wellG g).1 = wx
  have HW0 := Lib.hid hw0
  clear hw0 hw0x
  go_wp2_with fail
  refine (HAL.out _).mono ?_
  rintro e w8 ⟨⟨an, rfl, han⟩, d, rfl⟩
  have hb8 : Below w7.heap.size w7 (w7.drewN d) := below_drewN (Below.refl _ _) d
  generalize w7.drewN d = w8 at hb8 ⊢
  replace hgx := hgx.below hb8 hgx.lt
  replace hw1 := hw1.trans (hb8.mono hw1.size)
  clear hb8 g0
  have g0 : w8.cell? ⟨w.heap.size, 0, none⟩ = some (.slice A g.length cp) := hgx.cell 0
  by_cases ha0 : an = 0
  rotate_left
  · have hxb : (an != 0) = true := by rw [bne_iff_ne]; exact ha0
    clear ha0 han
    go_wp2
    go_ret
    exact ⟨rfl, hw1⟩
  have hok : LookOk g a' k := ⟨HW0.out, han.1 ha0, k, rfl, by omega, sh_few _ (by omega) _ hk5⟩
  subst ha0
  have hc0 : checkG g = 0 := by
    refine Classical.byContradiction fun hc => ?_
    have h := HW0.out
    unfold wellG at h
    rw [if_pos hc] at h
    exact hc h
  have hok2 : LookOk (rnG g) a' k := ⟨by rw [rn_well hc0]; exact HW0.out, hok.2⟩
  have HOK := Lib.hid hok
  have HOK2 := Lib.hid hok2
  have HC0 := Lib.hid hc0
  clear han hok hok2 hc0
  go_wp2_with fail
  refine (HDS.out _ hw1 a' k (by omega) (by omega)).mono ?_
  rintro e w9 hq
  obtain ⟨rfl, hb9⟩ := least_none hq HOK.out HOK.out fun _ => rfl
  replace hgx := hgx.below hb9 hgx.lt
  replace hw1 := hw1.trans (hb9.mono hw1.size)
  clear hb9 g0 hq
  go_upto_region 9 with fail
  refine wp_region_l (DsC (.slice A g.length cp) w) (fun _ => false) (by kernel_rfl) ?_
  have hC : DsC (.slice A g.length cp) w w9.drew := ⟨hgx.drew, hw1.drew⟩
  generalize w9.drew = wd at hC ⊢
  clear hgx hw1
  apply L.rd (i := 0) rfl (by kernel_rfl) hC rfl
  · intro W hW
    have n0 := hW.box.cell 0
    unfold readW
    go_simp
    first | rfl | exact ⟨rfl, rfl⟩
  first | simp only [Act.put, List.setIfInBounds_toArray, List.set_cons_succ, List.set_cons_zero] | skip
  apply L.rd (i := 1) rfl (by kernel_rfl) hC rfl
  · intro W hW
    have n0 := hW.box.cell 0
    unfold readW
    go_simp
    first | rfl | exact ⟨rfl, rfl⟩
  first | simp only [Act.put, List.setIfInBounds_toArray, List.set_cons_succ, List.set_cons_zero] | skip
  apply L.rd (i := 3) rfl (by kernel_rfl) hC rfl
  · intro W hW
    skip
    unfold readW
    go_simp
    first | rfl | exact ⟨rfl, rfl⟩
  first | simp only [Act.put, List.setIfInBounds_toArray, List.set_cons_succ, List.set_cons_zero] | skip
  apply L.rd (i := 4) rfl (by kernel_rfl) hC rfl
  · intro W hW
    skip
    unfold readW
    go_simp
    first | rfl | exact ⟨rfl, rfl⟩
  first | simp only [Act.put, List.setIfInBounds_toArray, List.set_cons_succ, List.set_cons_zero] | skip
  apply L.one (i := 2) rfl (by kernel_rfl) rfl
  unfold stepT
  go_simp
  go_at_call 37
  refine (HRN.out HC0.out _ hC.bel).mono ?_
  rintro e wn ⟨hbn, V, c, rows, rfl, hH⟩
  replace hC : DsC (.slice A g.length cp) w wn := ⟨hC.box.below hbn hC.box.lt, hC.bel.trans (hbn.mono hC.bel.size)⟩
  refine ⟨_, rfl, hC, ?_⟩
  first | simp only [Act.put, List.setIfInBounds_toArray, List.set_cons_succ, List.set_cons_zero] | skip
  have hdr := HDR.out wn hC.bel V c rows hH a' k (by omega) (by omega)
  have HDX := Lib.hid hdr
  clear hdr hH hbn
  apply L.one (i := 5) rfl (by kernel_rfl) rfl
  unfold stepT
  go_simp
  go_at_call 34
  refine HDX.out.mono ?_
  rintro e wm hq
  obtain ⟨rfl, hbm⟩ := least_none hq HOK.out HOK2.out fun u => (acc_rn HC0.out u).symm
  replace hC : DsC (.slice A g.length cp) w wm := ⟨hC.box.below hbm hC.box.lt, hC.bel.trans (hbm.mono hC.bel.size)⟩
  clear hq hbm HDX
  refine ⟨_, rfl, hC, ?_⟩
  first | simp only [Act.put, List.setIfInBounds_toArray, List.set_cons_succ, List.set_cons_zero] | skip
  apply L.rd (i := 6) rfl (by kernel_rfl) hC rfl
  · intro W hW
    skip
    unfold readW
    go_simp
    first | rfl | exact ⟨rfl, rfl⟩
  first | simp only [Act.put, List.setIfInBounds_toArray, List.set_cons_succ, List.set_cons_zero] | skip
  apply L.rd (i := 7) rfl (by kernel_rfl) hC rfl
  · intro W hW
    skip
    unfold readW
    go_simp
    first | rfl | exact ⟨rfl, rfl⟩
  first | simp only [Act.put, List.setIfInBounds_toArray, List.set_cons_succ, List.set_cons_zero] | skip
  apply L.rd (i := 8) rfl (by kernel_rfl) hC rfl
  · intro W hW
    skip
    unfold readW
    go_simp
    first | rfl | exact ⟨rfl, rfl⟩
  first | simp only [Act.put, List.setIfInBounds_toArray, List.set_cons_succ, List.set_cons_zero] | skip
  apply L.rd (i := 9) rfl (by kernel_rfl) hC rfl
  · intro W hW
    skip
    unfold readW
    go_simp
    first | rfl | exact ⟨rfl, rfl⟩
  first | simp only [Act.put, List.setIfInBounds_toArray, List.set_cons_succ, List.set_cons_zero] | skip
  apply L.rd (i := 10) rfl (by kernel_rfl) hC rfl
  · intro W hW
    skip
    unfold readW
    go_simp
    first | rfl | exact ⟨rfl, rfl⟩
  first | simp only [Act.put, List.setIfInBounds_toArray, List.set_cons_succ, List.set_cons_zero] | skip
  apply L.rd (i := 11) rfl (by kernel_rfl) hC rfl
  · intro W hW
    skip
    unfold readW
    go_simp
    first | rfl | exact ⟨rfl, rfl⟩
  first | simp only [Act.put, List.setIfInBounds_toArray, List.set_cons_succ, List.set_cons_zero] | skip
  apply L.rd (i := 12) rfl (by kernel_rfl) hC rfl
  · intro W hW
    skip
    unfold readW
    go_simp
    first | rfl | exact ⟨rfl, rfl⟩
  first | simp only [Act.put, List.setIfInBounds_toArray, List.set_cons_succ, List.set_cons_zero] | skip
  refine L.done (by kernel_rfl) ?_
  have hw2 := hC.bel
  clear hC
  go_wp2
  go_ret
  exact ⟨by simp, hw2⟩
end Go.Proofs.Ytkmcnekjimobhaa
