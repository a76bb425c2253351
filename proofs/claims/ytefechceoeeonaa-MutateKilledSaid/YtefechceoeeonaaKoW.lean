/- The walk of the law MutateKilled. -/
import Derived.Test.YtefechceoeeonaaKoC
import Derived.Test.YtefechceoeeonaaXA
import Derived.Test.YtefechceoeeonaaCov1
import Derived.Test.YtefechceoeeonaaQSpl
import Derived.Deep.DeepCutAuto
namespace Go.Proofs.Ytefechceoeeonaa
open Go.RowKit Go.Maps

noncomputable def kilZ (g : List Rl) (T : List ByteArray) (js : List Gm) : List Int := js.map fun m => idxP (kilB g m.g) T 0
theorem kilL_ints (g : List Rl) (T : List ByteArray) (js : List Gm) : kilL g T js = ints (kilZ g T js) := by simp [kilL, kilZ, ints]
/-- where a mutant is killed by some texts, and by more -/
theorem kil_cases (p : ByteArray → Bool) (T M : List ByteArray) : (idxP p T 0 = -1 ∧ (idxP p (T ++ M) 0 = -1 ∨ (T.length : Int) ≤ idxP p (T ++ M) 0)) ∨
    ∃ (k : Nat) (s : ByteArray), idxP p T 0 = k ∧ idxP p (T ++ M) 0 = k ∧ T[k]? = some s ∧ p s = true ∧ ∀ i y, i < k → T[i]? = some y → p y = false := by
  obtain ⟨h1, h2⟩ := idxP_app p T M 0
  rcases idxP_lo p T 0 with ⟨h, _⟩ | ⟨k, s, a1, a2, a3, a4⟩
  · have := h2 (by omega)
    rw [Nat.zero_add] at this
    exact .inl ⟨h, this⟩
  · rw [Nat.zero_add] at a3
    exact .inr ⟨k, s, a3, (h1 (by omega)).trans a3, a1, a2, a4⟩
def yM (b : Nat) : Gm := ⟨some ⟨b, 0, none⟩, yG, 1, fun _ => exCells 3 0 0 0 0 ⟨#[121]⟩ none 0 0⟩
def eyT : List ByteArray := [⟨#[]⟩, ⟨#[121]⟩]
theorem ey_ok (b : Nat) : KillOk xG [yM b] eyT := ⟨x_well, by simp, by simp [eyT], fun m hm => by rw [List.mem_singleton.1 hm]; exact y_well, fun s hs => look_of x_well (by
  simp only [eyT, List.mem_cons, List.not_mem_nil, or_false] at hs
  rcases hs with rfl | rfl <;> decide)⟩
theorem ey_kil (b : Nat) : kilZ xG eyT [yM b] = [1] := by
  have h1 : accG xG ⟨#[]⟩ = false := x_acc _ (by decide) (o := none) (by decide +kernel)
  have h2 : accG yG ⟨#[]⟩ = false := y_acc _ (by decide) (o := none) (by decide +kernel)
  have h3 : accG xG ⟨#[121]⟩ = false := x_acc _ (by decide) (o := none) (by decide +kernel)
  have h4 : accG yG ⟨#[121]⟩ = true := y_acc _ (by decide) (o := some 1) (by decide +kernel)
  simp [kilZ, yM, eyT, idxP, kilB, h1, h2, h3, h4]

set_option maxRecDepth 100000 in
set_option maxHeartbeats 8000000 in
theorem walk_MutateKilled {g : List Rl} {A LA TA MA : Option Addr} {cp lc tc mc : Nat} {row : Nat → List Value} {js : List Gm} {T M : List ByteArray} (w : World) (hg : GrIs w w.heap.size g A cp row) (hwf : ∀ r ∈ g, WfE r.2)
    (hj : ∀ m ∈ js, m.In w) (hl : Reads w w.heap.size 1 LA js.length (js.map Gm.val)) (hT : Reads w w.heap.size 1 TA T.length (T.map Value.string)) (hT1 : T.length ≤ 8796093022208) (hM : Reads w w.heap.size 1 MA M.length (M.map Value.string)) (hM1 : M.length ≤ 8796093022208) :
    Calls Try.prog 9 #[.agg #[.slice A g.length cp], .slice LA js.length lc, .slice TA T.length tc, .slice MA M.length mc] w fun e w' => e = .returned (.bool true) ∧ Below w.heap.size w w' := by
  have hlit := lit_b
  have hone1 := fun W => one_b (litE ⟨#[120]⟩) _ W (litE_is W ⟨#[120]⟩ (by decide))
  have hone2 := fun W => one_b (litE ⟨#[121]⟩) _ W (litE_is W ⟨#[121]⟩ (by decide))
  have hk1 := fun W (hW : Below w.heap.size w W) => kill_any (lc := lc) (tc := tc) (hg.grow hW) hwf ((hl.below hW).more hW.size) (fun m hm => (hj m hm).grow hW) ((hT.below hW).more hW.size)
  have hk2 := fun W (hW : Below w.heap.size w W) V c (hr : Reads W W.heap.size 1 V (T ++ M).length ((T ++ M).map Value.string)) => kill_any (lc := lc) (tc := c) (hg.grow hW) hwf ((hl.below hW).more hW.size) (fun m hm => (hj m hm).grow hW) hr
  have hcc := fun W (hW : Below w.heap.size w W) lb (hb : Blk W lb 61 #[.slice TA T.length tc, .slice MA M.length mc]) => concat_any hb ((hT.below hW).more hW.size) ((hM.below hW).more hW.size) hT1 hM1
  unfold CatQ at hcc
  obtain ⟨TM, hTM⟩ : ∃ TM, T ++ M = TM := ⟨_, rfl⟩
  simp only [hTM] at hcc hk2
  have HTM := Lib.hid hTM
  clear hTM
  have hag := fun W (hW : Below w.heap.size w W) t => acc_any (hg.grow hW) hwf t
  have ham := fun W (hW : Below w.heap.size w W) m (hm : m ∈ js) t => acc_any ((hj m hm).gr.grow hW) (hj m hm).wf t
  unfold exCells at hlit hone1 hone2
  have HL := Lib.hid hlit
  have HO1 := Lib.hid hone1
  have HO2 := Lib.hid hone2
  have HK1 := Lib.hid hk1
  have HK2 := Lib.hid hk2
  have HCC := Lib.hid hcc
  have HAG := Lib.hid hag
  have HAM := Lib.hid ham
  have HLR := Lib.hid hl
  have HTR := Lib.hid hT
  clear hlit hone1 hone2 hk1 hk2 hcc hag ham hl hT hM hg hwf hj hM1
  go_enter Try.func9, Try.ntmps9
  go_wp2_with fail
  refine (HL.out ⟨#[120]⟩ _).mono ?_
  rintro e w1 ⟨rfl, hb1⟩
  have hgx : Blk w1 w.heap.size 24 #[.slice A g.length cp] := (blk_at rfl).below hb1 (by first | omega | (simp; omega) | simp)
  have hw1 : Below w.heap.size w w1 := ((Below.refl _ w).alloc (Nat.le_refl _) _).trans (hb1.mono (by first | omega | (simp; omega) | simp))
  clear hb1
  go_wp2_with fail
  refine (HO1.out _).mono ?_
  rintro e w2 ⟨b1, rfl, hG1, hb2⟩
  replace hgx := hgx.below hb2 hgx.lt
  replace hw1 := hw1.trans (hb2.mono hw1.size)
  clear hb2
  go_wp2_with fail
  refine (HL.out ⟨#[121]⟩ _).mono ?_
  rintro e w3 ⟨rfl, hb3⟩
  replace hgx := hgx.below hb3 hgx.lt
  replace hw1 := hw1.trans (hb3.mono hw1.size)
  replace hG1 := (hG1.on hb3).more hb3.size
  clear hb3
  go_wp2_with fail
  refine (HO2.out _).mono ?_
  rintro e w4 ⟨b2, rfl, hG2, hb4⟩
  replace hgx := hgx.below hb4 hgx.lt
  replace hw1 := hw1.trans (hb4.mono hw1.size)
  replace hG1 := (hG1.on hb4).more hb4.size
  have hz4 := hw1.size
  clear hb4
  go_wp2_with fail
  have hB1 : Blk ((w4.alloc (.cells #[.slice (some ⟨b2, 0, none⟩) 1 1] 24)).alloc (.cells #[.string ⟨#[]⟩, .string ⟨#[121]⟩] 9)) w4.heap.size 24 #[.slice (some ⟨b2, 0, none⟩) 1 1] := (blk_at rfl).alloc _
  have hB2 : Blk ((w4.alloc (.cells #[.slice (some ⟨b2, 0, none⟩) 1 1] 24)).alloc (.cells #[.string ⟨#[]⟩, .string ⟨#[121]⟩] 9)) (w4.heap.size + 1) 9 #[.string ⟨#[]⟩, .string ⟨#[121]⟩] := blk_at (by simp)
  have hw5 : Below w.heap.size w ((w4.alloc (.cells #[.slice (some ⟨b2, 0, none⟩) 1 1] 24)).alloc (.cells #[.string ⟨#[]⟩, .string ⟨#[121]⟩] 9)) := (by repeat (first | exact Below.refl _ _ | assumption | refine Below.drew ?_ | refine below_drewN ?_ _ | refine Below.alloc ?_ (by first | omega | (simp; omega) | simp) _ | refine Below.setCell ?_ (by first | omega | (simp; omega) | simp) _))
  have h45 : Below w4.heap.size w4 ((w4.alloc (.cells #[.slice (some ⟨b2, 0, none⟩) 1 1] 24)).alloc (.cells #[.string ⟨#[]⟩, .string ⟨#[121]⟩] 9)) := ((Below.refl _ w4).alloc (Nat.le_refl _) _).alloc (by simp) _
  generalize ((w4.alloc (.cells #[.slice (some ⟨b2, 0, none⟩) 1 1] 24)).alloc (.cells #[.string ⟨#[]⟩, .string ⟨#[121]⟩] 9)) = w5 at hB1 hB2 hw5 h45 ⊢
  have hk0 := kill_any (js := [yM b2]) (T := eyT) (lc := 1) (tc := 2) (hG1.grow h45) (wf_g1 (wf_lit _)) (LA := some ⟨w4.heap.size, 0, none⟩) (TA := some ⟨w4.heap.size + 1, 0, none⟩)
    ⟨rfl, fun _ => ⟨_, rfl, hB1.lt, fun j u hu => by rw [cell_add, hB1.cell, ← Array.getElem?_toList]; exact hu⟩⟩ (fun m hm => by rw [List.mem_singleton.1 hm]; exact ⟨hG2.grow h45, wf_g1 (wf_lit _)⟩)
    ⟨rfl, fun _ => ⟨_, rfl, hB2.lt, fun j u hu => by rw [cell_add, hB2.cell, ← Array.getElem?_toList]; exact hu⟩⟩
  have HK0 := Lib.hid hk0
  replace hgx := hgx.below h45 hgx.lt
  clear hk0 hG1 hG2 hB1 hB2 h45 hz4 hw1
  refine HK0.out.mono ?_
  rintro e w6 ⟨hb6, hq⟩
  rcases hq with ⟨hbad, _⟩ | ⟨_, V, c, rfl, hown⟩
  · exact absurd (ey_ok b2) hbad
  rw [kilL_ints, show kilZ [(nameA, litE ⟨#[120]⟩)] eyT [yM b2] = [1] from ey_kil b2] at hown
  have hrd := Reads.of_own hown
  replace hgx := hgx.below hb6 hgx.lt
  have hw6 := hw5.trans (hb6.mono hw5.size)
  have hz6 := hw6.size
  have hgl6 := hgx.lt
  have hbk : Blk (w6.alloc (.cells #[.int .i64 1] 3)) w6.heap.size 3 #[.int .i64 1] := blk_at rfl
  have heq := equal_any V (some ⟨w6.heap.size, 0, none⟩) 1 c 1 1 [1] [1] _ _ (w6.alloc (.cells #[.int .i64 1] 3)) (hrd.below ((Below.refl _ w6).alloc (Nat.le_refl _) _)) ⟨rfl, fun _ => ⟨_, rfl, hbk.lt, fun j u hu => by rw [cell_add, hbk.cell, ← Array.getElem?_toList]; exact hu⟩⟩ (by unfold Small; omega)
  rw [decide_eq_true rfl] at heq
  have HE := Lib.hid heq
  clear heq hbk hrd hown hb6 HK0
  have hlen1 : [yM b2].length = 1 := rfl
  simp only [hlen1]
  go_wp2_with fail
  refine HE.out.mono ?_
  rintro e w7 ⟨rfl, d, rfl⟩
  have hw7 : Below w.heap.size w ((w6.alloc (.cells #[.int .i64 1] 3)).drewN d) := (by repeat (first | exact Below.refl _ _ | assumption | refine Below.drew ?_ | refine below_drewN ?_ _ | refine Below.alloc ?_ (by first | omega | (simp; omega) | simp) _ | refine Below.setCell ?_ (by first | omega | (simp; omega) | simp) _))
  replace hgx := (hgx.alloc (.cells #[.int .i64 1] 3)).drewN d
  generalize ((w6.alloc (.cells #[.int .i64 1] 3)).drewN d) = w7 at hw7 hgx ⊢
  clear HE hz6 hgl6 hw6 hw5
  have g0 : w7.cell? ⟨w.heap.size, 0, none⟩ = some (.slice A g.length cp) := hgx.cell 0
  go_wp2_with fail
  refine (HK1.out _ hw7).mono ?_
  rintro e w8 ⟨hb8, hq⟩
  obtain ⟨V8, n8, c8, x8, rfl, hq8⟩ : ∃ V n c x, e = .returned (.tuple #[.slice V n c, .int .i64 x]) ∧ ((x ≠ 0 ∧ n = 0) ∨ (x = 0 ∧ KillOk g js T ∧ n = js.length ∧ Reads w8 w8.heap.size 1 V n (ints (kilZ g T js)))) := by
    rcases hq with ⟨_, x, hx0, rfl⟩ | ⟨hok, V, c, rfl, hown⟩
    · exact ⟨_, _, _, x, rfl, .inl ⟨hx0, rfl⟩⟩
    · rw [kilL_ints] at hown
      exact ⟨V, _, c, 0, rfl, .inr ⟨rfl, hok, rfl, Reads.of_own hown⟩⟩
  replace hgx := hgx.below hb8 hgx.lt
  have hw8 := hw7.trans (hb8.mono hw7.size)
  have HQ8 := Lib.hid hq8
  have hz8 := hw8.size
  clear hq8 hq hb8 hw7 g0 HK1
  go_upto_region 5 with fail
  refine wp_region_l (Below w8.heap.size w8) (fun _ => false) (by kernel_rfl) ?_
  have hC : Below w8.heap.size w8 w8.drew := (Below.refl _ _).drew
  generalize w8.drew = wd at hC ⊢
  apply L.rd (i := 0) rfl (by kernel_rfl) hC rfl
  · intro W hW
    have n0 := (hgx.below hW hgx.lt).cell 0
    unfold readW
    go_simp
    first | rfl | exact ⟨rfl, rfl⟩
  first | simp only [Act.put, List.setIfInBounds_toArray, List.set_cons_succ, List.set_cons_zero] | skip
  apply L.rd (i := 1) rfl (by kernel_rfl) hC rfl
  · intro W hW
    skip
    unfold readW
    go_simp
    first | rfl | exact ⟨rfl, rfl⟩
  first | simp only [Act.put, List.setIfInBounds_toArray, List.set_cons_succ, List.set_cons_zero] | skip
  apply L.rd (i := 2) rfl (by kernel_rfl) hC rfl
  · intro W hW
    skip
    unfold readW
    go_simp
    first | rfl | exact ⟨rfl, rfl⟩
  first | simp only [Act.put, List.setIfInBounds_toArray, List.set_cons_succ, List.set_cons_zero] | skip
  apply L.rd (i := 3) rfl (by kernel_rfl) hC rfl
  · intro W hW
    skip
    unfold readW
    go_simp
    first | rfl | exact ⟨rfl, rfl⟩
  first | simp only [Act.put, List.setIfInBounds_toArray, List.set_cons_succ, List.set_cons_zero] | skip
  apply L.one (i := 4) rfl (by kernel_rfl) rfl
  unfold stepT
  go_simp
  have hkb : Blk (wd.alloc (.cells #[.slice TA T.length tc, .slice MA M.length mc] 61)) wd.heap.size 61 #[.slice TA T.length tc, .slice MA M.length mc] := blk_at rfl
  replace hC := hC.alloc hC.size (.cells #[.slice TA T.length tc, .slice MA M.length mc] 61)
  generalize (wd.alloc (.cells #[.slice TA T.length tc, .slice MA M.length mc] 61)) = wk at hC hkb ⊢
  generalize wd.heap.size = kb at hkb ⊢
  refine ⟨hC, ?_⟩
  first | simp only [Act.put, List.setIfInBounds_toArray, List.set_cons_succ, List.set_cons_zero] | skip
  apply L.one (i := 5) rfl (by kernel_rfl) rfl
  unfold stepT
  go_simp
  go_at_call 35
  refine (HCC.out _ (hw8.trans (hC.mono hz8)) kb hkb).mono ?_
  rintro e wn ⟨hbn, VC, cc, rfl, hrC⟩
  replace hC := hC.trans (hbn.mono hC.size)
  clear hbn hkb
  refine ⟨_, rfl, hC, ?_⟩
  first | simp only [Act.put, List.setIfInBounds_toArray, List.set_cons_succ, List.set_cons_zero] | skip
  apply L.one (i := 6) rfl (by kernel_rfl) rfl
  unfold stepT
  go_simp
  go_at_call 33
  refine (HK2.out _ (hw8.trans (hC.mono hz8)) VC cc hrC).mono ?_
  rintro e w9 ⟨hb9, hq⟩
  obtain ⟨V9, n9, c9, x9, rfl, hq9⟩ : ∃ V n c x, e = .returned (.tuple #[.slice V n c, .int .i64 x]) ∧ ((x ≠ 0 ∧ n = 0) ∨ (x = 0 ∧ n = js.length ∧ Reads w9 w9.heap.size 1 V n (ints (kilZ g TM js)))) := by
    rcases hq with ⟨_, x, hx0, rfl⟩ | ⟨_, V, c, rfl, hown⟩
    · exact ⟨_, _, _, x, rfl, .inl ⟨hx0, rfl⟩⟩
    · rw [kilL_ints] at hown
      exact ⟨V, _, c, 0, rfl, .inr ⟨rfl, rfl, Reads.of_own hown⟩⟩
  replace hC := hC.trans (hb9.mono hC.size)
  have HQ9 := Lib.hid hq9
  clear hb9 hrC hq9 hq
  refine ⟨_, rfl, hC, ?_⟩
  first | simp only [Act.put, List.setIfInBounds_toArray, List.set_cons_succ, List.set_cons_zero] | skip
  apply L.rd (i := 7) rfl (by kernel_rfl) hC rfl
  · intro W hW
    skip
    unfold readW
    go_simp
    first | rfl | exact ⟨rfl, rfl⟩
  first | simp only [Act.put, List.setIfInBounds_toArray, List.set_cons_succ, List.set_cons_zero] | skip
  apply L.rd (i := 8) rfl (by kernel_rfl) hC rfl
  · intro W hW
    skip
    unfold readW
    go_simp
    first | rfl | exact ⟨rfl, rfl⟩
  first | simp only [Act.put, List.setIfInBounds_toArray, List.set_cons_succ, List.set_cons_zero] | skip
  apply L.rd (i := 9) rfl (by kernel_rfl) hC rfl
  · intro W hW
    skip
    unfold readW
    go_simp
    first | rfl | exact ⟨rfl, rfl⟩
  first | simp only [Act.put, List.setIfInBounds_toArray, List.set_cons_succ, List.set_cons_zero] | skip
  apply L.rd (i := 10) rfl (by kernel_rfl) hC rfl
  · intro W hW
    skip
    unfold readW
    go_simp
    first | rfl | exact ⟨rfl, rfl⟩
  first | simp only [Act.put, List.setIfInBounds_toArray, List.set_cons_succ, List.set_cons_zero] | skip
  apply L.rd (i := 11) rfl (by kernel_rfl) hC rfl
  · intro W hW
    skip
    unfold readW
    go_simp
    first | rfl | exact ⟨rfl, rfl⟩
  first | simp only [Act.put, List.setIfInBounds_toArray, List.set_cons_succ, List.set_cons_zero] | skip
  refine L.done (by kernel_rfl) ?_
  replace hgx := hgx.below hC hgx.lt
  have hw9 := hw8.trans (hC.mono hz8)
  have hz9 := hC.size
  rcases HQ8.out with ⟨hx8, rfl⟩ | ⟨rfl, hok, rfl, hr8⟩
  · have hxb : (x8 != 0) = true := by rw [bne_iff_ne]; exact hx8
    have hxc : (x8 == 0) = false := by rw [beq_eq_false_iff_ne]; exact hx8
    clear hx8 HQ8
    go_wp2
    go_ret
    exact ⟨rfl, hw9⟩
  rcases HQ9.out with ⟨hx9, rfl⟩ | ⟨rfl, rfl, hr9⟩
  · have hxb : (x9 != 0) = true := by rw [bne_iff_ne]; exact hx9
    clear hx9 HQ9 HQ8
    go_wp2
    go_ret
    exact ⟨rfl, hw9⟩
  have hr8' := (hr8.below hC).more hC.size
  have HR8 := Lib.hid hr8'
  have HR9 := Lib.hid hr9
  have h400 := hok.l
  have h40 := hok.t
  clear hr8 hr9 hr8' HQ8 HQ9 hC HK2 HCC hok hw8 hz8
  have hrs : Below w9.heap.size w9 w9 := Below.refl _ _
  go_wp2
  go_loopw [84] (fun i wr => ∃ j : Nat, j ≤ js.length ∧ i = .int .i64 j ∧ Below w9.heap.size w9 wr) (fun i _ => js.length - (intOf i).toNat)
  case atStart => exact ⟨0, by omega, rfl, hrs⟩
  case round =>
    clear hrs
    obtain ⟨j, hj, rfl, hwr⟩ := hrel
    have hzr := hwr.size
    have hww := hw9.trans (hwr.mono hw9.size)
    by_cases hjn : j < js.length
    · obtain ⟨ad, m, rfl, hab, hg, e0⟩ := reads_gm (HLR.out.below hww) hjn
      obtain ⟨ad8, z8, rfl, hb8, hz8, e8⟩ := (HR8.out.below hwr).int_at hjn
      obtain ⟨ad9, z9, rfl, hb9, hz9, e9⟩ := (HR9.out.below hwr).int_at hjn
      have hzw := hww.size
      have had : ad.block < wr.heap.size := by omega
      have had8 : (ad8.add j).block < wr.heap.size := by rw [add_block]; omega
      have had9 : (ad9.add j).block < wr.heap.size := by rw [add_block]; omega
      have hjl : (j : Int) < (js.length : Int) := by omega
      have hj0 : (0 : Int) ≤ (j : Int) := by omega
      have hmm := List.mem_of_getElem? hg
      obtain rfl : idxP (kilB g m.g) T 0 = z8 := by simpa [kilZ, hg] using hz8
      obtain rfl : idxP (kilB g m.g) TM 0 = z9 := by simpa [kilZ, hg] using hz9
      have hkc := kil_cases (kilB g m.g) T M
      rw [HTM.out] at hkc
      have hmx : Blk (wr.alloc (.cells #[.slice m.A m.g.length m.cp] 24)) wr.heap.size 24 #[.slice m.A m.g.length m.cp] := blk_at rfl
      have hga := hgx.below (hwr.alloc hzr (.cells #[.slice m.A m.g.length m.cp] 24)) hgx.lt
      have hwa := hwr.alloc hzr (.cells #[.slice m.A m.g.length m.cp] 24)
      have f8 : (wr.alloc (.cells #[.slice m.A m.g.length m.cp] 24)).cell? (ad8.add j) = some (.int .i64 (idxP (kilB g m.g) T 0)) := (((Below.refl _ wr).alloc (Nat.le_refl _) _).cell had8).trans e8
      have f9 : (wr.alloc (.cells #[.slice m.A m.g.length m.cp] 24)).cell? (ad9.add j) = some (.int .i64 (idxP (kilB g m.g) TM 0)) := (((Below.refl _ wr).alloc (Nat.le_refl _) _).cell had9).trans e9
      have hza : (wr.alloc (.cells #[.slice m.A m.g.length m.cp] 24)).heap.size = wr.heap.size + 1 := by simp
      go_upto_region 13 with fail
      generalize (wr.alloc (.cells #[.slice m.A m.g.length m.cp] 24)) = wa at hmx hga hwa f8 f9 hza ⊢
      have HAMM := Lib.hid (fun W (hW : Below w.heap.size w W) t => HAM.out W hW m hmm t)
      have ha8 : (ad8.add j).block < wa.heap.size := by omega
      clear hz8 hz9 hg hmm e8 e9 e0 hb8 hb9 hab
      rcases hkc with ⟨hA, hB⟩ | ⟨k, s, hA, hB, hks, hps, hpre⟩
      · rw [hA] at f8
        clear hA
        generalize idxP (kilB g m.g) TM 0 = b at hB f9
        rcases hB with rfl | hB
        · have t1 : ¬ ((T.length : Int) ≤ -1) := by omega
          go_quiet (fail)
          go_wp2
          go_loopw [17] (fun i wx => i = .int .i64 0 ∧ wx = wa.drewN nq) (fun _ _ => 0)
          case atStart => exact ⟨rfl, rfl⟩
          case round =>
            obtain ⟨rfl, rfl⟩ := hrel
            go_wp2
            go_roundw
            case rel => exact ⟨j + 1, by omega, by go_num, (by repeat (first | exact Below.refl _ _ | assumption | refine Below.drew ?_ | refine below_drewN ?_ _ | refine Below.alloc ?_ (by first | omega | (simp; omega) | simp) _ | refine Below.setCell ?_ (by first | omega | (simp; omega) | simp) _))⟩
            case measure => simp [intOf]; omega
        · have t1 : ¬ ((T.length : Int) ≤ -1) := by omega
          have t2 : (0 : Int) ≤ b := by omega
          have t3 : ¬ (b < (T.length : Int)) := by omega
          go_quiet (fail)
          go_wp2
          go_loopw [17] (fun i wx => i = .int .i64 0 ∧ wx = wa.drewN nq) (fun _ _ => 0)
          case atStart => exact ⟨rfl, rfl⟩
          case round =>
            obtain ⟨rfl, rfl⟩ := hrel
            go_wp2
            go_roundw
            case rel => exact ⟨j + 1, by omega, by go_num, (by repeat (first | exact Below.refl _ _ | assumption | refine Below.drew ?_ | refine below_drewN ?_ _ | refine Below.alloc ?_ (by first | omega | (simp; omega) | simp) _ | refine Below.setCell ?_ (by first | omega | (simp; omega) | simp) _))⟩
            case measure => simp [intOf]; omega
      · rw [hA] at f8
        rw [hB] at f9
        have hkT := getElem?_lt hks
        have HKS := Lib.hid hks
        have HPS := Lib.hid hps
        have HPRE := Lib.hid hpre
        clear hA hB hks hps hpre
        have t0 : (0 : Int) ≤ (k : Int) := by omega
        have t1 : ¬ ((T.length : Int) ≤ (k : Int)) := by omega
        have t2 : ¬ ((k : Int) < -1) := by omega
        have t3 : ¬ ((k : Int) < 0) := by omega
        go_quiet (fail)
        have f8' : (wa.drewN nq).cell? (ad8.add j) = some (.int .i64 (k : Int)) := f8
        have hmx' := hmx.drewN nq
        have hga' := hga.drewN nq
        have hwa' := below_drewN hwa nq
        have hza' : (wa.drewN nq).heap.size = wr.heap.size + 1 := hza
        have ha8' : (ad8.add j).block < (wa.drewN nq).heap.size := ha8
        generalize wa.drewN nq = wb at f8' hmx' hga' hwa' hza' ha8' ⊢
        clear f8 f9 hmx hga hwa hza ha8
        have hrs : Below wb.heap.size wb wb := Below.refl _ _
        generalize wr.heap.size = mb at hmx' hza' ⊢
        go_wp2
        go_loopw [17] (fun i wx => ∃ q : Nat, q ≤ k + 1 ∧ i = .int .i64 q ∧ Below wb.heap.size wb wx) (fun i _ => k + 1 - (intOf i).toNat)
        case atStart => exact ⟨0, by omega, rfl, hrs⟩
        case round =>
          clear hrs
          obtain ⟨q, hq, rfl, hwx⟩ := hrel
          have hzx := hwx.size
          have hw9x := hwa'.trans (hwx.mono hwa'.size)
          have hwwx := hw9.trans (hw9x.mono hw9.size)
          have i8 : wr.cell? (ad8.add j) = some (.int .i64 (k : Int)) := (hwx.cell ha8').trans f8'
          by_cases hqk : q ≤ k
          · have hqi : (q : Int) ≤ (k : Int) := by omega
            obtain ⟨adt, t, rfl, habt, hgt, et⟩ := reads_str (HTR.out.below hwwx) (show q < T.length by omega)
            have hadt : (adt.add q).block < wr.heap.size := by rw [add_block]; have := hwwx.size; omega
            have hqT : (q : Int) < (T.length : Int) := by omega
            have hgx3 := hga'.below hwx hga'.lt
            have hmx3 := hmx'.below hwx hmx'.lt
            have hfin : (accG g t != accG m.g t) = decide (q = k) := by
              have h1 : (accG m.g t != accG g t) = decide (q = k) := by
                by_cases hqe : q = k
                · subst hqe
                  have h2 := HKS.out
                  rw [hgt] at h2
                  injection h2 with h2
                  subst h2
                  rw [decide_eq_true rfl]
                  exact HPS.out
                · rw [decide_eq_false hqe]
                  exact HPRE.out q t (by omega) hgt
              rw [← h1]
              cases accG g t <;> cases accG m.g t <;> rfl
            have hca := fun W hW => HAG.out W hW t
            have hcm := fun W hW => HAMM.out W hW t
            generalize accG g t = x at hfin hca
            generalize accG m.g t = y at hfin hcm
            generalize lookG g t = lx at hca
            generalize lookG m.g t = ly at hcm
            have hfin2 : ((x != y) != ((q : Int) == (k : Int))) = false := by
              rw [hfin]
              by_cases hqe : q = k
              · subst hqe; simp
              · rw [decide_eq_false hqe, beq_eq_false_iff_ne.2 (by omega)]; rfl
            have hfin3 : (!(!x == y) == ((q : Int) == (k : Int))) = false := hfin2
            have HCA := Lib.hid hca
            have HCM := Lib.hid hcm
            clear hfin hca hcm hgt
            go_upto_region 18 with fail
            refine wp_region_l (fun W => Below wr.heap.size wr W) (fun _ => false) (by kernel_rfl) ?_
            have hC : Below wr.heap.size wr wr.drew := (Below.refl _ _).drew
            generalize wr.drew = wd at hC ⊢
            have hglx := hgx3.lt
            have hmlx := hmx3.lt
            apply L.rd (i := 0) rfl (by kernel_rfl) hC rfl
            · intro W hW
              have n0 := (hgx3.below hW hglx).cell 0
              unfold readW
              go_simp
              first | rfl | exact ⟨rfl, rfl⟩
            first | simp only [Act.put, List.setIfInBounds_toArray, List.set_cons_succ, List.set_cons_zero] | skip
            apply L.rd (i := 1) rfl (by kernel_rfl) hC rfl
            · intro W hW
              skip
              unfold readW
              go_simp
              first | rfl | exact ⟨rfl, rfl⟩
            first | simp only [Act.put, List.setIfInBounds_toArray, List.set_cons_succ, List.set_cons_zero] | skip
            apply L.rd (i := 2) rfl (by kernel_rfl) hC rfl
            · intro W hW
              skip
              unfold readW
              go_simp
              first | rfl | exact ⟨rfl, rfl⟩
            first | simp only [Act.put, List.setIfInBounds_toArray, List.set_cons_succ, List.set_cons_zero] | skip
            apply L.rd (i := 3) rfl (by kernel_rfl) hC rfl
            · intro W hW
              skip
              unfold readW
              go_simp
              first | rfl | exact ⟨rfl, rfl⟩
            first | simp only [Act.put, List.setIfInBounds_toArray, List.set_cons_succ, List.set_cons_zero] | skip
            apply L.rd (i := 4) rfl (by kernel_rfl) hC rfl
            · intro W hW
              have n0 := (hW.cell hadt).trans et
              unfold readW
              go_simp
              first | rfl | exact ⟨rfl, rfl⟩
            first | simp only [Act.put, List.setIfInBounds_toArray, List.set_cons_succ, List.set_cons_zero] | skip
            apply L.one (i := 5) rfl (by kernel_rfl) rfl
            unfold stepT
            go_simp
            go_at_call 36
            refine (HCA.out _ (hwwx.trans (hC.mono hwwx.size))).mono ?_
            rintro e wn ⟨rfl, hbn⟩
            replace hC := hC.trans (hbn.mono hC.size)
            clear hbn
            refine ⟨_, rfl, hC, ?_⟩
            first | simp only [Act.put, List.setIfInBounds_toArray, List.set_cons_succ, List.set_cons_zero] | skip
            apply L.rd (i := 6) rfl (by kernel_rfl) hC rfl
            · intro W hW
              skip
              unfold readW
              go_simp
              first | rfl | exact ⟨rfl, rfl⟩
            first | simp only [Act.put, List.setIfInBounds_toArray, List.set_cons_succ, List.set_cons_zero] | skip
            apply L.rd (i := 7) rfl (by kernel_rfl) hC rfl
            · intro W hW
              skip
              unfold readW
              go_simp
              first | rfl | exact ⟨rfl, rfl⟩
            first | simp only [Act.put, List.setIfInBounds_toArray, List.set_cons_succ, List.set_cons_zero] | skip
            apply L.rd (i := 8) rfl (by kernel_rfl) hC rfl
            · intro W hW
              skip
              unfold readW
              go_simp
              first | rfl | exact ⟨rfl, rfl⟩
            first | simp only [Act.put, List.setIfInBounds_toArray, List.set_cons_succ, List.set_cons_zero] | skip
            apply L.rd (i := 9) rfl (by kernel_rfl) hC rfl
            · intro W hW
              skip
              unfold readW
              go_simp
              first | rfl | exact ⟨rfl, rfl⟩
            first | simp only [Act.put, List.setIfInBounds_toArray, List.set_cons_succ, List.set_cons_zero] | skip
            apply L.rd (i := 10) rfl (by kernel_rfl) hC rfl
            · intro W hW
              skip
              unfold readW
              go_simp
              first | rfl | exact ⟨rfl, rfl⟩
            first | simp only [Act.put, List.setIfInBounds_toArray, List.set_cons_succ, List.set_cons_zero] | skip
            refine L.done (by kernel_rfl) ?_
            have hmx4 := hmx3.below hC hmlx
            have et4 := (hC.cell hadt).trans et
            have i84 := (hC.cell (p := ad8.add j) (by have := hwx.size; omega)).trans i8
            have hww4 := hwwx.trans (hC.mono hwwx.size)
            have hwx4 := hwx.trans (hC.mono hzx)
            have hzC := hC.size
            have hadt4 : (adt.add q).block < wn.heap.size := by omega
            have had84 : (ad8.add j).block < wn.heap.size := by have := hwx.size; omega
            clear hC hmx3 hgx3 i8 et hglx
            go_upto_region 19 with fail
            refine wp_region_l (fun W => Below wn.heap.size wn W) (fun _ => false) (by kernel_rfl) ?_
            have hC : Below wn.heap.size wn wn.drew := (Below.refl _ _).drew
            generalize wn.drew = wd at hC ⊢
            have hml4 := hmx4.lt
            apply L.rd (i := 0) rfl (by kernel_rfl) hC rfl
            · intro W hW
              have n0 := (hmx4.below hW hml4).cell 0
              unfold readW
              go_simp
              first | rfl | exact ⟨rfl, rfl⟩
            first | simp only [Act.put, List.setIfInBounds_toArray, List.set_cons_succ, List.set_cons_zero] | skip
            apply L.rd (i := 1) rfl (by kernel_rfl) hC rfl
            · intro W hW
              skip
              unfold readW
              go_simp
              first | rfl | exact ⟨rfl, rfl⟩
            first | simp only [Act.put, List.setIfInBounds_toArray, List.set_cons_succ, List.set_cons_zero] | skip
            apply L.rd (i := 2) rfl (by kernel_rfl) hC rfl
            · intro W hW
              skip
              unfold readW
              go_simp
              first | rfl | exact ⟨rfl, rfl⟩
            first | simp only [Act.put, List.setIfInBounds_toArray, List.set_cons_succ, List.set_cons_zero] | skip
            apply L.rd (i := 3) rfl (by kernel_rfl) hC rfl
            · intro W hW
              skip
              unfold readW
              go_simp
              first | rfl | exact ⟨rfl, rfl⟩
            first | simp only [Act.put, List.setIfInBounds_toArray, List.set_cons_succ, List.set_cons_zero] | skip
            apply L.rd (i := 4) rfl (by kernel_rfl) hC rfl
            · intro W hW
              have n0 := (hW.cell hadt4).trans et4
              unfold readW
              go_simp
              first | rfl | exact ⟨rfl, rfl⟩
            first | simp only [Act.put, List.setIfInBounds_toArray, List.set_cons_succ, List.set_cons_zero] | skip
            apply L.one (i := 5) rfl (by kernel_rfl) rfl
            unfold stepT
            go_simp
            go_at_call 36
            refine (HCM.out _ (hww4.trans (hC.mono hww4.size))).mono ?_
            rintro e wm ⟨rfl, hbn⟩
            replace hC := hC.trans (hbn.mono hC.size)
            clear hbn
            refine ⟨_, rfl, hC, ?_⟩
            first | simp only [Act.put, List.setIfInBounds_toArray, List.set_cons_succ, List.set_cons_zero] | skip
            apply L.rd (i := 6) rfl (by kernel_rfl) hC rfl
            · intro W hW
              skip
              unfold readW
              go_simp
              first | rfl | exact ⟨rfl, rfl⟩
            first | simp only [Act.put, List.setIfInBounds_toArray, List.set_cons_succ, List.set_cons_zero] | skip
            apply L.rd (i := 7) rfl (by kernel_rfl) hC rfl
            · intro W hW
              skip
              unfold readW
              go_simp
              first | rfl | exact ⟨rfl, rfl⟩
            first | simp only [Act.put, List.setIfInBounds_toArray, List.set_cons_succ, List.set_cons_zero] | skip
            apply L.rd (i := 8) rfl (by kernel_rfl) hC rfl
            · intro W hW
              skip
              unfold readW
              go_simp
              first | rfl | exact ⟨rfl, rfl⟩
            first | simp only [Act.put, List.setIfInBounds_toArray, List.set_cons_succ, List.set_cons_zero] | skip
            apply L.rd (i := 9) rfl (by kernel_rfl) hC rfl
            · intro W hW
              skip
              unfold readW
              go_simp
              first | rfl | exact ⟨rfl, rfl⟩
            first | simp only [Act.put, List.setIfInBounds_toArray, List.set_cons_succ, List.set_cons_zero] | skip
            apply L.rd (i := 10) rfl (by kernel_rfl) hC rfl
            · intro W hW
              skip
              unfold readW
              go_simp
              first | rfl | exact ⟨rfl, rfl⟩
            first | simp only [Act.put, List.setIfInBounds_toArray, List.set_cons_succ, List.set_cons_zero] | skip
            refine L.done (by kernel_rfl) ?_
            have i85 := (hC.cell had84).trans i84
            have hwx5 := hwx4.trans (hC.mono hwx4.size)
            clear hC hmx4 et4 i84
            have hk1 : (k : Int) + 1 ≤ 41 := by omega
            go_wp2
            go_roundw
            case rel => exact ⟨q + 1, by omega, by go_num, hwx5⟩
            case measure => simp [intOf]; omega
          · obtain rfl : q = k + 1 := by omega
            have hqi : ¬ (((k + 1 : Nat) : Int) ≤ (k : Int)) := by omega
            go_wp2
            go_roundw
            case rel => exact ⟨j + 1, by omega, by go_num, hw9x⟩
            case measure => simp [intOf]; omega
    · obtain rfl : j = js.length := by omega
      go_wp2
      go_ret
      exact ⟨rfl, hww⟩
end Go.Proofs.Ytefechceoeeonaa
