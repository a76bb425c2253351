/- The walk of the law MutateWell. -/
import Derived.Test.YtefechceoeeonaaMB
import Derived.Test.YtefechceoeeonaaSA
import Derived.Test.YtefechceoeeonaaQSpg
namespace Go.Proofs.Ytefechceoeeonaa
open Go.RowKit

def mwG : List Rl := [(nameA, ofN 7 [litE ⟨#[120]⟩])]
def mxG : List Rl := [(nameA, litE ⟨#[120]⟩)]
theorem mw_well : (wellG mwG).2 = 0 := by decide +kernel
theorem mw_mut : mutG mwG = [mxG] := by kernel_rfl
theorem mts_at {base : Nat} {W : World} {ms : List Mt} {V : Option Addr} {c j : Nat} (h : Mts base W ms V c) (hj : j < ms.length) : ∃ ad m, V = some ad ∧ ad.block < W.heap.size ∧ ms[j]? = some m ∧ W.cell? (ad.add j) = some (.slice m.A m.g.length m.cp) := by
  obtain ⟨ad, u, h1, h2, h3, h4⟩ := (Reads.of_own h.own).at_ hj
  rw [List.getElem?_map, Option.map_eq_some_iff] at h3
  obtain ⟨m, h5, rfl⟩ := h3
  exact ⟨ad, m, h1, h2, h5, h4⟩
theorem mts_is {base : Nat} {W : World} {ms : List Mt} {V : Option Addr} {c : Nat} (h : Mts base W ms V c) {m : Mt} (hm : m ∈ ms) : GrIs W W.heap.size m.g m.A m.cp m.row := (h.gr m hm).1.is

set_option maxRecDepth 100000 in
set_option maxHeartbeats 16000000 in
theorem walk_MutateWell {g : List Rl} {A : Option Addr} {cp : Nat} {row : Nat → List Value} (w : World) (hg : GrIs w w.heap.size g A cp row) :
    Calls Try.prog 6 #[.agg #[.slice A g.length cp]] w fun e w' => e = .returned (.bool true) ∧ Below w.heap.size w w' := by
  have hlit := lit_b ⟨#[120]⟩
  have hof := of_b
  have hone1 := fun (W : World) (b1 : Nat) (h1 : Blk W b1 38 (exCells 3 0 0 0 0 ⟨#[120]⟩ none 0 0).toArray) =>
    one_b (ofN 7 [litE ⟨#[120]⟩]) _ W (ex_one (litE_is W _ (by decide)) h1 (by simp) 7)
  have hone2 := fun W => one_b (litE ⟨#[120]⟩) _ W (litE_is W ⟨#[120]⟩ (by decide))
  have hmu := fun W (hW : Below w.heap.size w W) => mutants_any (hg.grow hW)
  have hwl := fun W (hW : Below w.heap.size w W) => well_any (hg.grow hW)
  unfold exCells at hlit hof hone1 hone2
  unfold WellQ at hwl
  have HL := Lib.hid hlit
  have HF := Lib.hid hof
  have HO1 := Lib.hid hone1
  have HO2 := Lib.hid hone2
  have HMU := Lib.hid hmu
  have HWL := Lib.hid hwl
  have HG := Lib.hid hg
  clear hlit hof hone1 hone2 hmu hwl hg
  go_enter Try.func6, Try.ntmps6
  go_wp2_with fail
  refine (HL.out _).mono ?_
  rintro e w1 ⟨rfl, hb1⟩
  have hgx : Blk w1 w.heap.size 24 #[.slice A g.length cp] := (blk_at rfl).below hb1 (by first | omega | (simp; omega) | simp)
  have hw1 : Below w.heap.size w w1 := ((Below.refl _ w).alloc (Nat.le_refl _) _).trans (hb1.mono (by first | omega | (simp; omega) | simp))
  have hz1 := hw1.size
  have hl1 := hgx.lt
  clear hb1
  go_wp2_with fail
  refine (HF.out _ _ _ _ _).mono ?_
  rintro e w2 ⟨rfl, hb2⟩
  have hkb := (blk_at (w := w1) (t := 38) (cs := #[.int .i64 3, .int .u64 0, .int .u64 0, .int .u64 0, .int .u64 0, .string ⟨#[120]⟩, .slice none 0 0]) rfl).below hb2 (by simp)
  replace hgx := (hgx.alloc _).below hb2 (by simp; omega)
  replace hw1 := (hw1.alloc hz1 _).trans (hb2.mono (by simp; omega))
  clear hb2 hz1 hl1
  generalize w1.heap.size = b1 at hkb ⊢
  go_wp2_with fail
  refine (HO1.out _ _ hkb).mono ?_
  rintro e w4 ⟨b3, rfl, hG1, hb4⟩
  replace hgx := hgx.below hb4 hgx.lt
  replace hw1 := hw1.trans (hb4.mono hw1.size)
  clear hb4 hkb
  have hm1 := mutants_any hG1
  have HM1 := Lib.hid hm1
  clear hm1 hG1
  go_wp2_with fail
  refine HM1.out.mono ?_
  rintro e w5 ⟨hb5, hq⟩
  replace hgx := hgx.below hb5 hgx.lt
  replace hw1 := hw1.trans (hb5.mono hw1.size)
  clear hb5 HM1
  rcases hq with ⟨hbad, _⟩ | ⟨_, ms, V, c, rfl, hms, hM⟩
  · exact absurd mw_well hbad
  rw [show mutG [(nameA, ofN 7 [litE ⟨#[120]⟩])] = [mxG] from mw_mut] at hms
  have hl1 : ms.length = 1 := by have := congrArg List.length hms; simpa using this
  obtain ⟨ad0, m0, rfl, had0, hm0, hc0⟩ := mts_at hM (j := 0) (by omega)
  have hm0g : m0.g = mxG := by
    have h := congrArg (fun l => l[0]?) hms
    simp only [List.getElem?_map, hm0, Option.map_some] at h
    simpa using h
  have hG2 := mts_is hM (List.mem_of_getElem? hm0)
  rw [hm0g] at hG2 hc0
  rw [hl1]
  have e0 : ad0.add 0 = ad0 := rfl
  rw [e0] at hc0
  clear hms hl1 hM hm0 hm0g e0
  have HG2 := Lib.hid hG2
  clear hG2
  go_upto_region 2 with fail
  refine wp_region_l (Below w5.heap.size w5) (fun _ => false) (by kernel_rfl) ?_
  have hC : Below w5.heap.size w5 w5.drew := (Below.refl _ _).drew
  generalize w5.drew = wd at hC ⊢
  apply L.rd (i := 0) rfl (by kernel_rfl) hC rfl
  · intro W hW
    skip
    unfold readW
    go_simp
    first | rfl | exact ⟨rfl, rfl⟩
  first | simp only [Act.put, List.setIfInBounds_toArray, List.set_cons_succ, List.set_cons_zero] | skip
  apply L.rd (i := 1) rfl (by kernel_rfl) hC rfl
  · intro W hW
    skip
    unfold readW
    go_simp
    first | rfl | exact ⟨rfl, rfl⟩
  first | simp only [Act.put, List.setIfInBounds_toArray, List.set_cons_succ, List.set_cons_zero] | skip
  apply L.rd (i := 2) rfl (by kernel_rfl) hC rfl
  · intro W hW
    skip
    unfold readW
    go_simp
    first | rfl | exact ⟨rfl, rfl⟩
  first | simp only [Act.put, List.setIfInBounds_toArray, List.set_cons_succ, List.set_cons_zero] | skip
  apply L.rdg (i := 3) rfl (by kernel_rfl) hC (by kernel_rfl)
  · intro W hW
    skip
    unfold readW
    go_simp
    first | rfl | exact ⟨rfl, rfl⟩
  first | simp only [Act.put, List.setIfInBounds_toArray, List.set_cons_succ, List.set_cons_zero] | skip
  apply L.rdg (i := 4) rfl (by kernel_rfl) hC (by kernel_rfl)
  · intro W hW
    skip
    unfold readW
    go_simp
    first | rfl | exact ⟨rfl, rfl⟩
  first | simp only [Act.put, List.setIfInBounds_toArray, List.set_cons_succ, List.set_cons_zero] | skip
  apply L.rdg (i := 5) rfl (by kernel_rfl) hC (by kernel_rfl)
  · intro W hW
    skip
    unfold readW
    go_simp
    first | rfl | exact ⟨rfl, rfl⟩
  first | simp only [Act.put, List.setIfInBounds_toArray, List.set_cons_succ, List.set_cons_zero] | skip
  apply L.rd (i := 6) rfl (by kernel_rfl) hC rfl
  · intro W hW
    skip
    unfold readW
    go_simp
    first | rfl | exact ⟨rfl, rfl⟩
  first | simp only [Act.put, List.setIfInBounds_toArray, List.set_cons_succ, List.set_cons_zero] | skip
  apply L.rd (i := 7) rfl (by kernel_rfl) hC rfl
  · intro W hW
    skip
    unfold readW
    go_simp
    first | rfl | exact ⟨rfl, rfl⟩
  first | simp only [Act.put, List.setIfInBounds_toArray, List.set_cons_succ, List.set_cons_zero] | skip
  apply L.rdg (i := 8) rfl (by kernel_rfl) hC (by kernel_rfl)
  · intro W hW
    skip
    unfold readW
    go_simp
    first | rfl | exact ⟨rfl, rfl⟩
  first | simp only [Act.put, List.setIfInBounds_toArray, List.set_cons_succ, List.set_cons_zero] | skip
  apply L.rdg (i := 9) rfl (by kernel_rfl) hC (by kernel_rfl)
  · intro W hW
    skip
    unfold readW
    go_simp
    first | rfl | exact ⟨rfl, rfl⟩
  first | simp only [Act.put, List.setIfInBounds_toArray, List.set_cons_succ, List.set_cons_zero] | skip
  apply L.rdg (i := 10) rfl (by kernel_rfl) hC (by kernel_rfl)
  · intro W hW
    have n0 := (hW.cell (p := ad0) had0).trans hc0
    unfold readW
    go_simp
    first | rfl | exact ⟨rfl, rfl⟩
  first | simp only [Act.put, List.setIfInBounds_toArray, List.set_cons_succ, List.set_cons_zero] | skip
  apply L.oneg (i := 11) rfl (by kernel_rfl) (by kernel_rfl)
  unfold stepT
  go_simp
  go_at_call 18
  refine (HL.out _).mono ?_
  rintro e wn ⟨rfl, hbn⟩
  replace hC := hC.trans (hbn.mono hC.size)
  clear hbn
  refine ⟨_, rfl, hC, ?_⟩
  first | simp only [Act.put, List.setIfInBounds_toArray, List.set_cons_succ, List.set_cons_zero] | skip
  apply L.oneg (i := 12) rfl (by kernel_rfl) (by kernel_rfl)
  unfold stepT
  go_simp
  go_at_call 17
  refine (HO2.out _).mono ?_
  rintro e wn ⟨b2, rfl, hG3, hbn⟩
  replace hC := hC.trans (hbn.mono hC.size)
  clear hbn
  refine ⟨_, rfl, hC, ?_⟩
  first | simp only [Act.put, List.setIfInBounds_toArray, List.set_cons_succ, List.set_cons_zero] | skip
  have hsm := sameg_any (HG2.out.grow hC) hG3
  rw [show isB (mxG = [(nameA, litE ⟨#[120]⟩)]) = true from isB_yes rfl] at hsm
  have HSM := Lib.hid hsm
  clear hsm hG3
  apply L.oneg (i := 13) rfl (by kernel_rfl) (by kernel_rfl)
  unfold stepT
  go_simp
  go_at_call 13
  refine HSM.out.mono ?_
  rintro e wn ⟨rfl, hbn⟩
  replace hC := hC.trans (hbn.mono hC.size)
  clear hbn
  refine ⟨_, rfl, hC, ?_⟩
  first | simp only [Act.put, List.setIfInBounds_toArray, List.set_cons_succ, List.set_cons_zero] | skip
  apply L.rdg (i := 14) rfl (by kernel_rfl) hC (by kernel_rfl)
  · intro W hW
    skip
    unfold readW
    go_simp
    first | rfl | exact ⟨rfl, rfl⟩
  first | simp only [Act.put, List.setIfInBounds_toArray, List.set_cons_succ, List.set_cons_zero] | skip
  apply L.rd (i := 15) rfl (by kernel_rfl) hC rfl
  · intro W hW
    skip
    unfold readW
    go_simp
    first | rfl | exact ⟨rfl, rfl⟩
  first | simp only [Act.put, List.setIfInBounds_toArray, List.set_cons_succ, List.set_cons_zero] | skip
  refine L.done (by kernel_rfl) ?_
  replace hgx := hgx.below hC hgx.lt
  replace hw1 := hw1.trans (hC.mono hw1.size)
  clear hC HG2 HSM HL HO1 HO2 HF hc0 had0
  have g0 : wn.cell? ⟨w.heap.size, 0, none⟩ = some (.slice A g.length cp) := hgx.cell 0
  go_wp2_with fail
  refine (HMU.out _ hw1).mono ?_
  rintro e w7 ⟨hb7, hq⟩
  replace hgx := hgx.below hb7 hgx.lt
  replace hw1 := hw1.trans (hb7.mono hw1.size)
  clear hb7 g0 HMU
  have g0 : w7.cell? ⟨w.heap.size, 0, none⟩ = some (.slice A g.length cp) := hgx.cell 0
  rcases hq with ⟨hbad, rfl⟩ | ⟨hw0, ms, V, c, rfl, hms, hM⟩
  · have hxb : ((wellG g).2 != 0) = true := by rw [bne_iff_ne]; exact hbad
    generalize (wellG g).2 = x at hxb HWL
    generalize (wellG g).1 = y at HWL
    clear hbad
    go_wp2_with fail
    refine (HWL.out _ hw1).mono ?_
    rintro e w8 ⟨rfl, hb8⟩
    replace hw1 := hw1.trans (hb8.mono hw1.size)
    go_wp2
    go_ret
    exact ⟨by simp, hw1⟩
  have hnl : ms.length ≤ 360 := by
    have h1 := mut_len g
    have h2 := (well_of hw0).right.nodes
    have h3 := congrArg List.length hms
    rw [List.length_map] at h3
    omega
  have h10 := (well_of hw0).right.ten
  have hmem : ∀ m ∈ ms, (wellG m.g).2 = 0 ∧ m.g.length = g.length ∧ ∃ i, ∀ (j : Nat) (r : Rl), g[j]? = some r → ∃ y, m.g[j]? = some (r.1, y) ∧ (j ≠ i → y = r.2) := fun m hm => mut_mem (g := g) (by rw [← hms]; exact List.mem_map_of_mem hm)
  have HMEM := Lib.hid hmem
  have HM := Lib.hid hM
  have hz7 := hw1.size
  have hrs : Below w7.heap.size w7 w7 := Below.refl _ _
  clear hmem hms hM hw0 HWL
  go_wp2
  clear g0
  go_loopw [62] (fun i wr => ∃ j : Nat, j ≤ ms.length ∧ i = .int .i64 j ∧ Below w7.heap.size w7 wr) (fun i _ => ms.length - (intOf i).toNat)
  case atStart => exact ⟨0, by omega, rfl, hrs⟩
  case round =>
    clear hrs
    obtain ⟨j, hj, rfl, hwr⟩ := hrel
    obtain ⟨W0, hW0⟩ : ∃ W0, W0 = wr := ⟨_, rfl⟩
    subst hW0
    have hzr := hwr.size
    have hbw := hw1.trans (hwr.mono hz7)
    by_cases hjn : j < ms.length
    · obtain ⟨ad, m, rfl, hab, hm, hc⟩ := mts_at HM.out hjn
      have hmm := List.mem_of_getElem? hm
      obtain ⟨hmw, hml, i0, hi0⟩ := HMEM.out m hmm
      have hc1 : W0.cell? (ad.add j) = some (.slice m.A m.g.length m.cp) := (hwr.cell (by rw [add_block]; exact hab)).trans hc
      rw [hml] at hc1
      have had : ad.block < W0.heap.size := by omega
      have hjl : (j : Int) < (ms.length : Int) := by omega
      have hGm := (mts_is HM.out hmm).grow hwr
      have hGa := hGm.grow ((Below.refl _ W0).alloc (Nat.le_refl _) (.cells #[.slice m.A g.length m.cp] 24))
      have hwe := well_any hGa
      unfold WellQ at hwe
      rw [hmw, hml] at hwe
      generalize (wellG m.g).1 = y at hwe
      have HWE := Lib.hid hwe
      have hmx : Blk (W0.alloc (.cells #[.slice m.A g.length m.cp] 24)) W0.heap.size 24 #[.slice m.A g.length m.cp] := blk_at rfl
      have hga := (hgx.below hwr hgx.lt).alloc (.cells #[.slice m.A g.length m.cp] 24)
      have hwa := hwr.alloc hzr (.cells #[.slice m.A g.length m.cp] 24)
      have HI0 := Lib.hid hi0
      clear hwe hGa hc hm hmw hi0
      go_upto_region 11 with fail
      generalize (W0.alloc (.cells #[.slice m.A g.length m.cp] 24)) = wa at hmx hga hwa HWE ⊢
      generalize W0.heap.size = mb at hmx ⊢
      have m0 : wa.cell? ⟨mb, 0, none⟩ = some (.slice m.A g.length m.cp) := hmx.cell 0
      go_wp2_with fail
      refine HWE.out.mono ?_
      rintro e wb ⟨rfl, hbb⟩
      replace hmx := hmx.below hbb hmx.lt
      replace hga := hga.below hbb hga.lt
      replace hwa := hwa.trans (hbb.mono hwa.size)
      clear hbb m0 HWE
      have m0 : wb.cell? ⟨mb, 0, none⟩ = some (.slice m.A g.length m.cp) := hmx.cell 0
      have g0 : wb.cell? ⟨w.heap.size, 0, none⟩ = some (.slice A g.length cp) := hga.cell 0
      have hrs : Below wb.heap.size wb wb := Below.refl _ _
      have hzb := hwa.size
      have HGM := Lib.hid ((mts_is HM.out hmm).grow hwa)
      have HGG := Lib.hid (HG.out.grow (hw1.trans (hwa.mono hz7)))
      go_wp2
      clear m0 g0
      go_loopw [13, 85] (fun v i wx => ∃ (q cnt : Nat), q ≤ g.length ∧ i = .int .i64 q ∧ v = .int .i64 cnt ∧ cnt ≤ 1 ∧ (q ≤ i0 → cnt = 0) ∧ Below wb.heap.size wb wx) (fun _ i _ => g.length - (intOf i).toNat)
      case atStart => exact ⟨0, 0, by omega, rfl, rfl, by omega, fun _ => rfl, hrs⟩
      case round =>
        clear hrs
        obtain ⟨q, cnt, hq, rfl, rfl, hcnt, hci, hwx⟩ := hrel
        obtain ⟨wx, hwx0⟩ : ∃ wx, wx = wr := ⟨_, rfl⟩
        subst hwx0
        have hzx := hwx.size
        by_cases hqn : q < g.length
        · obtain ⟨ad1, nm1, k1, a1, b1, c1, d1, t1, ks1, A1, cp1, hA1, hab1, hej1, hnm1, hE1, hS1⟩ := HGM.out.rule (j := q) (by omega)
          obtain ⟨ad2, nm2, k2, a2, b2, c2, d2, t2, ks2, A2, cp2, hA2, hab2, hej2, hnm2, hE2, hS2⟩ := HGG.out.rule hqn
          obtain ⟨y2, hy1, hy2⟩ := HI0.out q _ hej2
          rw [hej1] at hy1
          injection hy1 with hy1
          injection hy1 with hnn hyy
          simp only at hnn
          subst hnn
          subst hyy
          subst hA2
          have hab1' : (ad1.add (q * 8)).block < wb.heap.size := by rw [add_block]; exact hab1
          have hab2' : (ad2.add (q * 8)).block < wb.heap.size := by rw [add_block]; exact hab2
          have hk1 := fun (p : Addr) (hp : p.block = (ad1.add (q * 8)).block) => hwx.cell (p := p) (by rw [hp]; exact hab1')
          have x0 := (hk1 _ rfl).trans hS1.c0
          have x1 := (hk1 ⟨_, _, none⟩ rfl).trans hS1.c1
          have x2 := (hk1 ⟨_, _, none⟩ rfl).trans hS1.c2
          have x3 := (hk1 ⟨_, _, none⟩ rfl).trans hS1.c3
          have x4 := (hk1 ⟨_, _, none⟩ rfl).trans hS1.c4
          have x5 := (hk1 ⟨_, _, none⟩ rfl).trans hS1.c5
          have x6 := (hk1 ⟨_, _, none⟩ rfl).trans hS1.c6
          have x7 := (hk1 ⟨_, _, none⟩ rfl).trans hS1.c7
          have had1 : ad1.block < wx.heap.size := by omega
          have hqi : (q : Int) < (g.length : Int) := by omega
          have hrb : Blk (wx.alloc (.cells #[.string nm1, .int .i64 k1, .int .u64 a1, .int .u64 b1, .int .u64 c1, .int .u64 d1, .string t1, .slice A1 ks1.length cp1] 44)) wx.heap.size 44 #[.string nm1, .int .i64 k1, .int .u64 a1, .int .u64 b1, .int .u64 c1, .int .u64 d1, .string t1, .slice A1 ks1.length cp1] := blk_at rfl
          have hwy : Below wb.heap.size wb (wx.alloc (.cells #[.string nm1, .int .i64 k1, .int .u64 a1, .int .u64 b1, .int .u64 c1, .int .u64 d1, .string t1, .slice A1 ks1.length cp1] 44)) := hwx.alloc hzx _
          have hgy : Blk (wx.alloc (.cells #[.string nm1, .int .i64 k1, .int .u64 a1, .int .u64 b1, .int .u64 c1, .int .u64 d1, .string t1, .slice A1 ks1.length cp1] 44)) w.heap.size 24 #[.slice (some ad2) g.length cp] := (hga.below hwx hga.lt).alloc _
          rw [hA1]
          clear hk1
          go_upto_region 18 with fail
          clear x0 x1 x2 x3 x4 x5 x6 x7
          generalize (wx.alloc (.cells #[.string nm1, .int .i64 k1, .int .u64 a1, .int .u64 b1, .int .u64 c1, .int .u64 d1, .string t1, .slice A1 ks1.length cp1] 44)) = wy at hrb hwy hgy ⊢
          generalize wx.heap.size = rb at hrb ⊢
          have hk2 := fun (p : Addr) (hp : p.block = (ad2.add (q * 8)).block) => hwy.cell (p := p) (by rw [hp]; exact hab2')
          have z0 := (hk2 _ rfl).trans hS2.c0
          have z1 := (hk2 ⟨_, _, none⟩ rfl).trans hS2.c1
          have z2 := (hk2 ⟨_, _, none⟩ rfl).trans hS2.c2
          have z3 := (hk2 ⟨_, _, none⟩ rfl).trans hS2.c3
          have z4 := (hk2 ⟨_, _, none⟩ rfl).trans hS2.c4
          have z5 := (hk2 ⟨_, _, none⟩ rfl).trans hS2.c5
          have z6 := (hk2 ⟨_, _, none⟩ rfl).trans hS2.c6
          have z7 := (hk2 ⟨_, _, none⟩ rfl).trans hS2.c7
          clear hk2
          have hzy := hwy.size
          have hzz : (ad2.add (q * 8)).block < wy.heap.size := by omega
          have hsame := fun W (hW : Below wy.heap.size wy W) => samex_any (.mk k1 a1 b1 c1 d1 t1 ks1) (.mk k2 a2 b2 c2 d2 t2 ks2) _ _ W (hE1.grow (hwy.trans (hW.mono hzy))) (hE2.grow (hwy.trans (hW.mono hzy)))
          unfold exCells at hsame
          obtain ⟨bb, hbb⟩ : ∃ bb, isB (Ex.mk k1 a1 b1 c1 d1 t1 ks1 = .mk k2 a2 b2 c2 d2 t2 ks2) = bb := ⟨_, rfl⟩
          rw [hbb] at hsame
          have HBB := Lib.hid hbb
          clear hbb
          have HSAME := Lib.hid hsame
          clear hsame hE1 hE2 hS1 hS2 hej1 hej2
          refine wp_region_l (Below wy.heap.size wy) (fun _ => false) (by kernel_rfl) ?_
          have hC : Below wy.heap.size wy wy.drew := (Below.refl _ _).drew
          generalize wy.drew = wd at hC ⊢
          apply L.rd (i := 0) rfl (by kernel_rfl) hC rfl
          · intro W hW
            skip
            unfold readW
            go_simp
            first | rfl | exact ⟨rfl, rfl⟩
          first | simp only [Act.put, List.setIfInBounds_toArray, List.set_cons_succ, List.set_cons_zero] | skip
          apply L.rd (i := 1) rfl (by kernel_rfl) hC rfl
          · intro W hW
            have n0 := (hrb.below hW hrb.lt).cell 0
            unfold readW
            go_simp
            first | rfl | exact ⟨rfl, rfl⟩
          first | simp only [Act.put, List.setIfInBounds_toArray, List.set_cons_succ, List.set_cons_zero] | skip
          apply L.rd (i := 2) rfl (by kernel_rfl) hC rfl
          · intro W hW
            skip
            unfold readW
            go_simp
            first | rfl | exact ⟨rfl, rfl⟩
          first | simp only [Act.put, List.setIfInBounds_toArray, List.set_cons_succ, List.set_cons_zero] | skip
          apply L.rd (i := 3) rfl (by kernel_rfl) hC rfl
          · intro W hW
            have n0 := (hgy.below hW hgy.lt).cell 0
            unfold readW
            go_simp
            first | rfl | exact ⟨rfl, rfl⟩
          first | simp only [Act.put, List.setIfInBounds_toArray, List.set_cons_succ, List.set_cons_zero] | skip
          apply L.rd (i := 4) rfl (by kernel_rfl) hC rfl
          · intro W hW
            skip
            unfold readW
            go_simp
            first | rfl | exact ⟨rfl, rfl⟩
          first | simp only [Act.put, List.setIfInBounds_toArray, List.set_cons_succ, List.set_cons_zero] | skip
          apply L.rd (i := 5) rfl (by kernel_rfl) hC rfl
          · intro W hW
            skip
            unfold readW
            go_simp
            first | rfl | exact ⟨rfl, rfl⟩
          first | simp only [Act.put, List.setIfInBounds_toArray, List.set_cons_succ, List.set_cons_zero] | skip
          apply L.rd (i := 6) rfl (by kernel_rfl) hC rfl
          · intro W hW
            skip
            unfold readW
            go_simp
            first | rfl | exact ⟨rfl, rfl⟩
          first | simp only [Act.put, List.setIfInBounds_toArray, List.set_cons_succ, List.set_cons_zero] | skip
          apply L.rd (i := 7) rfl (by kernel_rfl) hC rfl
          · intro W hW
            have n0 := (hW.cell (p := ad2.add (q * 8)) hzz).trans z0
            unfold readW
            go_simp
            first | rfl | exact ⟨rfl, rfl⟩
          first | simp only [Act.put, List.setIfInBounds_toArray, List.set_cons_succ, List.set_cons_zero] | skip
          apply L.rd (i := 8) rfl (by kernel_rfl) hC rfl
          · intro W hW
            skip
            unfold readW
            go_simp
            first | rfl | exact ⟨rfl, rfl⟩
          first | simp only [Act.put, List.setIfInBounds_toArray, List.set_cons_succ, List.set_cons_zero] | skip
          refine L.done (by kernel_rfl) ?_
          go_upto_region 20 with fail
          refine wp_region_l (Below wy.heap.size wy) (fun _ => false) (by kernel_rfl) ?_
          replace hC := hC.drew
          generalize wd.drew = we at hC ⊢
          apply L.rd (i := 0) rfl (by kernel_rfl) hC rfl
          · intro W hW
            skip
            unfold readW
            go_simp
            first | rfl | exact ⟨rfl, rfl⟩
          first | simp only [Act.put, List.setIfInBounds_toArray, List.set_cons_succ, List.set_cons_zero] | skip
          apply L.rd (i := 1) rfl (by kernel_rfl) hC rfl
          · intro W hW
            have r1 := (hrb.below hW hrb.lt).cell 1; have r2 := (hrb.below hW hrb.lt).cell 2; have r3 := (hrb.below hW hrb.lt).cell 3; have r4 := (hrb.below hW hrb.lt).cell 4; have r5 := (hrb.below hW hrb.lt).cell 5; have r6 := (hrb.below hW hrb.lt).cell 6; have r7 := (hrb.below hW hrb.lt).cell 7
            unfold readW
            go_simp
            first | rfl | exact ⟨rfl, rfl⟩
          first | simp only [Act.put, List.setIfInBounds_toArray, List.set_cons_succ, List.set_cons_zero] | skip
          apply L.rd (i := 2) rfl (by kernel_rfl) hC rfl
          · intro W hW
            skip
            unfold readW
            go_simp
            first | rfl | exact ⟨rfl, rfl⟩
          first | simp only [Act.put, List.setIfInBounds_toArray, List.set_cons_succ, List.set_cons_zero] | skip
          apply L.rd (i := 3) rfl (by kernel_rfl) hC rfl
          · intro W hW
            have n0 := (hgy.below hW hgy.lt).cell 0
            unfold readW
            go_simp
            first | rfl | exact ⟨rfl, rfl⟩
          first | simp only [Act.put, List.setIfInBounds_toArray, List.set_cons_succ, List.set_cons_zero] | skip
          apply L.rd (i := 4) rfl (by kernel_rfl) hC rfl
          · intro W hW
            skip
            unfold readW
            go_simp
            first | rfl | exact ⟨rfl, rfl⟩
          first | simp only [Act.put, List.setIfInBounds_toArray, List.set_cons_succ, List.set_cons_zero] | skip
          apply L.rd (i := 5) rfl (by kernel_rfl) hC rfl
          · intro W hW
            skip
            unfold readW
            go_simp
            first | rfl | exact ⟨rfl, rfl⟩
          first | simp only [Act.put, List.setIfInBounds_toArray, List.set_cons_succ, List.set_cons_zero] | skip
          apply L.rd (i := 6) rfl (by kernel_rfl) hC rfl
          · intro W hW
            skip
            unfold readW
            go_simp
            first | rfl | exact ⟨rfl, rfl⟩
          first | simp only [Act.put, List.setIfInBounds_toArray, List.set_cons_succ, List.set_cons_zero] | skip
          apply L.rd (i := 7) rfl (by kernel_rfl) hC rfl
          · intro W hW
            have n1 := (hW.cell (p := ⟨_, _, none⟩) hzz).trans z1; have n2 := (hW.cell (p := ⟨_, _, none⟩) hzz).trans z2; have n3 := (hW.cell (p := ⟨_, _, none⟩) hzz).trans z3; have n4 := (hW.cell (p := ⟨_, _, none⟩) hzz).trans z4; have n5 := (hW.cell (p := ⟨_, _, none⟩) hzz).trans z5; have n6 := (hW.cell (p := ⟨_, _, none⟩) hzz).trans z6; have n7 := (hW.cell (p := ⟨_, _, none⟩) hzz).trans z7
            unfold readW
            go_simp
            first | rfl | exact ⟨rfl, rfl⟩
          first | simp only [Act.put, List.setIfInBounds_toArray, List.set_cons_succ, List.set_cons_zero] | skip
          apply L.one (i := 8) rfl (by kernel_rfl) rfl
          unfold stepT
          go_simp
          go_at_call 25
          refine (HSAME.out _ hC).mono ?_
          rintro e wn ⟨rfl, hbn⟩
          replace hC := hC.trans (hbn.mono hC.size)
          clear hbn
          refine ⟨_, rfl, hC, ?_⟩
          first | simp only [Act.put, List.setIfInBounds_toArray, List.set_cons_succ, List.set_cons_zero] | skip
          apply L.rd (i := 9) rfl (by kernel_rfl) hC rfl
          · intro W hW
            skip
            unfold readW
            go_simp
            first | rfl | exact ⟨rfl, rfl⟩
          first | simp only [Act.put, List.setIfInBounds_toArray, List.set_cons_succ, List.set_cons_zero] | skip
          refine L.done (by kernel_rfl) ?_
          have hwn := hwy.trans (hC.mono hzy)
          by_cases hEE : Ex.mk k1 a1 b1 c1 d1 t1 ks1 = .mk k2 a2 b2 c2 d2 t2 ks2
          · obtain rfl : bb = true := by rw [← HBB.out, isB_yes hEE]
            clear hEE HBB hC hrb hgy z0 z1 z2 z3 z4 z5 z6 z7 hy2
            go_wp2
            go_roundw
            case rel => exact ⟨q + 1, cnt, by omega, by go_num, rfl, hcnt, fun h => hci (by omega), hwn⟩
            case measure => simp [intOf]; omega
          · have hqe : q = i0 := Classical.byContradiction fun h => hEE (hy2 h)
            have hc0 : cnt = 0 := hci (by omega)
            obtain rfl : bb = false := by rw [← HBB.out, isB_no hEE]
            clear hEE HBB hC hrb hgy z0 z1 z2 z3 z4 z5 z6 z7 hy2
            subst hc0
            have HQE := Lib.hid hqe
            clear hqe
            go_wp2
            go_roundw
            case rel => exact ⟨q + 1, 1, by omega, by go_num, by first | rfl | go_num, by omega, fun h => by have := HQE.out; omega, hwn⟩
            case measure => simp [intOf]; omega
        · obtain rfl : q = g.length := by omega
          have hc1' : ¬ (1 < (cnt : Int)) := by omega
          have hwf := hwa.trans (hwx.mono hzb)
          go_wp2
          go_roundw
          case rel => exact ⟨j + 1, by omega, by go_num, hwf⟩
          case measure => simp [intOf]; omega
    · obtain rfl : j = ms.length := by omega
      have h4 : (ms.length : Int) ≤ 400 := by omega
      go_wp2
      go_ret
      exact ⟨by simp, hbw⟩
end Go.Proofs.Ytefechceoeeonaa
