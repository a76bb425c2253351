/- The walk of the law JobsEven. -/
import Derived.Test.YtlamphneimpdlaaJbF
namespace Go.Proofs.Ytlamphneimpdlaa
open Go.RowKit

theorem x_all : (turnsJ (accG xG) [120] 1 1 9 (startJ 9)).found = [⟨#[120]⟩] := by
  have x0 : accG xG ⟨#[]⟩ = false := x_acc _ (by decide) (o := none) (by decide +kernel)
  have x1 : accG xG ⟨#[120]⟩ = true := x_acc _ (by decide) (o := some 1) (by decide +kernel)
  have h := turns_even (acc := accG xG) (a := [120]) (n := 1) (s := 1) (B := 9) (r := 9) x_ok (by decide) (.inl (by decide))
  rw [listL_all (by decide)] at h
  have h1 := congrArg Prod.fst h
  simp only at h1
  rw [h1]
  unfold allL
  rw [texts_x1]
  simp [x0, x1]

set_option maxRecDepth 100000 in
set_option maxHeartbeats 4000000 in
theorem walk_JobsEven {js : List Jb} {LA : Option Addr} {lc : Nat} (z : Int) (w : World) (hin : ∀ j ∈ js, j.In w) (hr : Reads w w.heap.size 4 LA js.length (js.flatMap Jb.cells)) :
    Calls Try.prog 8 #[.slice LA js.length lc, .int .i64 z] w fun e w' => e = .returned (.bool true) ∧ Below w.heap.size w w' := by
  have hlit := lit_b ⟨#[120]⟩
  have hone := fun W => one_b (litE ⟨#[120]⟩) _ W (litE_is W ⟨#[120]⟩ (by decide))
  have hxr := fun (W : World) (b : Nat) (row : Nat → List Value) (hG : GrIs W W.heap.size xG (some ⟨b, 0, none⟩) 1 row) => xrun_any hG 9 (by decide)
  obtain ⟨s, hs⟩ : ∃ s : Nat, s = 1 + wiN z 1000 := ⟨_, rfl⟩
  have hsl : s ≤ 1000 := by have := wiN_lt z (n := 1000) (by decide); omega
  have hs1 : 1 ≤ s := by omega
  have hwi := fun W => within_any z 1000 (by decide) (by decide) W
  have hrn := fun W (hW : Below w.heap.size w W) => jruns_any (lc := lc) (fun j hj => (hin j hj).grow hW) ((hr.below hW).more hW.size) s 1000 ⟨by decide, by decide⟩
  have hmy := fun (j : Jb) (hj : j ∈ js) W => many_any j.a j.n W (hin j hj).az (hin j hj).n
  have hli := fun W (hW : Below w.heap.size w W) (j : Jb) (hj : j ∈ js) => list_any ((hin j hj).gr.grow hW) (hin j hj).wf j.a j.n (hin j hj).az (hin j hj).n (⟨#[]⟩, false) (by show (0 : Nat) ≤ _; exact Nat.zero_le _) j.bud
  unfold exCells at hlit hone
  unfold curV at hli
  have HL := Lib.hid hlit
  have HO := Lib.hid hone
  have HX := Lib.hid hxr
  have HRN := Lib.hid hrn
  have HWI := Lib.hid hwi
  have HMY := Lib.hid hmy
  have HLI := Lib.hid hli
  have HRD := Lib.hid hr
  have HSW := Lib.hid hs
  clear hlit hone hxr hrn hwi hmy hli hin hr hs
  go_enter Try.func8, Try.ntmps8
  go_wp2_with fail
  refine (HL.out _).mono ?_
  rintro e w1 ⟨rfl, hb1⟩
  have hw1 : Below w.heap.size w w1 := hb1
  clear hb1
  go_wp2_with fail
  refine (HO.out _).mono ?_
  rintro e w2 ⟨b, rfl, hG, hb2⟩
  have hw2 := hw1.trans (hb2.mono hw1.size)
  clear hb2 hw1
  go_wp2_with fail
  refine (HX.out _ _ _ hG).mono ?_
  rintro e w3 ⟨hb3, V, c, rfl, hst⟩
  have hw3 := hw2.trans (hb3.mono hw2.size)
  clear hb3 hw2 hG
  have hx8 := x_all
  rw [show (9 : Int).toNat = 9 from rfl] at hst
  generalize turnsJ (accG xG) [120] 1 1 9 (startJ 9) = x at hst hx8
  obtain ⟨ad, V0, c0, rfl, hab, hc, hf⟩ := hst.at_
  have y00 : w3.cell? ad = some (fnV (V0, c0) x) := hc 0 _ rfl
  rw [hx8] at hf
  have y0 : w3.cell? ad = some (.slice V0 1 c0) := by rw [y00, fnV, hx8]; rfl
  clear y00
  have heq := fun (W : World) (hW : Below w3.heap.size w3 W) (b' : Nat) (hb' : Blk W b' 9 #[.string ⟨#[120]⟩]) => equalS_any V0 (some ⟨b', 0, none⟩) 1 c0 1 1 _ [⟨#[120]⟩] _ (b' + 1) W ((hf.below hW).more hW.size) ⟨rfl, fun _ => ⟨⟨b', 0, none⟩, rfl, by simp, fun i x hi => by
    match i, hi with
    | 0, hi => cases hi; exact hb'.cell 0⟩⟩ (by decide) (by decide)
  have HE := Lib.hid heq
  clear hc hst HX HL HO heq hf
  go_wp2_with fail
  refine (HE.out _ ((Below.refl _ _).alloc (Nat.le_refl _) _) _ (blk_at rfl)).mono ?_
  rintro e w5 ⟨rfl, d, rfl⟩
  have hw5 : Below w.heap.size w ((w3.alloc (.cells #[.string ⟨#[120]⟩] 9)).drewN d) := below_drewN (hw3.alloc hw3.size _) d
  generalize ((w3.alloc (.cells #[.string ⟨#[120]⟩] 9)).drewN d) = w5 at hw5 ⊢
  clear y0 hw3 HE
  simp only [decide_true]
  have hz5 := hw5.size
  go_wp2_with fail
  refine (HWI.out _).mono ?_
  rintro e w6 ⟨rfl, hb6⟩
  have hw6 := hw5.trans (hb6.mono hz5)
  have hsw : (1 : Int) + (wiN z 1000 : Int) = (s : Int) := by rw [HSW.out]; omega
  have hss : IntKind.i64.wrap (1 + (wiN z 1000 : Int)) = (s : Int) := by rw [hsw]; exact wrap_i64 _ (by omega) (by omega)
  clear hb6 hw5 hz5 hsw
  go_wp2_with fail
  refine (HRN.out _ hw6).mono ?_
  rintro e w4 ⟨hb4, hq⟩
  have hw4 := hw6.trans (hb4.mono hw6.size)
  clear hb4 hw6 hss
  rcases hq with ⟨hbad, x1, h0, rfl⟩ | ⟨hok, VA, ca, rfl, hst⟩
  · have hx1 : (x1 != 0) = true := by rw [bne_iff_ne]; exact h0
    clear h0 hbad HRN HMY HLI
    go_wp2
    go_ret
    exact ⟨rfl, hw4⟩
  have h8 : js.length ≤ 8 := hok.1
  rw [Int.toNat_natCast] at hst
  have HST := Lib.hid hst
  have HOK := Lib.hid hok
  clear hst hok HRN HWI HSW
  go_wp2
  go_loopw [61] (fun i wr => ∃ m : Nat, m ≤ js.length ∧ i = .int .i64 m ∧ Below w.heap.size w wr ∧ Below w4.heap.size w4 wr) (fun i _ => js.length - (intOf i).toNat)
  case atStart => exact ⟨0, by omega, rfl, hw4, Below.refl _ _⟩
  case round =>
    obtain ⟨m, hm, rfl, hwr, h4r⟩ := hrel
    have hwz := hwr.size
    by_cases hmn : m < js.length
    · obtain ⟨j, hj⟩ : ∃ j, js[m]? = some j := ⟨_, List.getElem?_eq_getElem hmn⟩
      obtain ⟨la, rfl, hlb, hcell⟩ := HRD.out.lies (by omega)
      have hkc : ∀ u v, j.cells[u]? = some v → wr.cell? ((la.add (m * 4)).add u) = some v := fun u v hu => by
        rw [hwr.cell (by rw [add_block, add_block]; exact hlb), add_add']
        exact hcell _ _ (jb_get hj hu)
      have y0 : wr.cell? (la.add (m * 4)) = some (.slice j.A j.g.length j.cp) := hkc 0 _ rfl
      have y1 : wr.cell? ⟨(la.add (m * 4)).block, (la.add (m * 4)).off + 1, none⟩ = some (.string j.a) := hkc 1 _ rfl
      have y2 : wr.cell? ⟨(la.add (m * 4)).block, (la.add (m * 4)).off + 2, none⟩ = some (.int .i64 j.n) := hkc 2 _ rfl
      have y3 : wr.cell? ⟨(la.add (m * 4)).block, (la.add (m * 4)).off + 3, none⟩ = some (.int .i64 j.bud) := hkc 3 _ rfl
      have hlb1 : la.block < wr.heap.size := by omega
      have hmi : (m : Int) < (js.length : Int) := by omega
      have hjm := List.mem_of_getElem? hj
      have hjok := HOK.out.2.2 j hjm
      have hmy := HMY.out j hjm
      have hli := fun W hW => HLI.out W hW j hjm
      have hfl := stR_len HOK.out hj
      have hsa := (HST.out m hmn).below h4r
      have hst : stR js s 1000 m = j.after s 1000 := by simp only [stR, hj]
      rw [Int.toNat_natCast] at hfl
      rw [show (1000 : Int).toNat = 1000 from rfl] at hfl hsa
      have HJO := Lib.hid hjok
      have HMJ := Lib.hid hmy
      have HLJ := Lib.hid hli
      have HSA := Lib.hid hsa
      have HSJ := Lib.hid hst
      have HFL := Lib.hid hfl
      clear hkc hcell hj hjm hjok hmy hli hsa hst hfl
      obtain ⟨hwell, hao, k, hk, hk6, h5⟩ := HJO.out.look
      have hlen : j.a.data.toList.length = j.a.size := size_list j.a
      have hev : (j.bud.toNat ≤ 1000 * s ∨ shN j.a.size (k + 1) ≤ 1000 * s) → listL (accG j.g) j.a.data.toList j.n.toNat (⟨#[]⟩, false) j.bud.toNat = ((stR js s 1000 m).found, (stR js s 1000 m).cur) := fun h => by
        rw [HSJ.out]
        unfold Jb.after
        rw [hk, Int.toNat_natCast]
        exact (turns_even hao hk6 (by rw [hlen]; exact h)).symm
      have HEV := Lib.hid hev
      have hcs : CurOk j.a.data.toList j.n.toNat (⟨#[]⟩, false) := cur_start hao _
      have HCS := Lib.hid hcs
      have hjn : ¬ (j.n < 0 ∨ 6 < j.n) := by omega
      have HJN := Lib.hid hjn
      have HAO := Lib.hid hao
      have HJK := Lib.hid hk
      obtain ⟨M, hM⟩ : ∃ M, shN j.a.size (k + 1) = M := ⟨_, rfl⟩
      rw [hM] at h5 HEV
      have HMM := Lib.hid hM
      clear hev hcs hjn hao hk hk6 hM hlen hwell
      have hmul : IntKind.i64.wrap (1000 * (s : Int)) = 1000 * (s : Int) := wrap_i64 _ (by omega) (by omega)
      go_wp2_with fail
      refine (HMJ.out _).mono ?_
      rintro e w5 ⟨⟨M', x1, rfl, ⟨hx0, _, k', hk', _, hM'⟩ | ⟨_, _, hbad⟩⟩, d5, rfl⟩
      case inr => exact absurd (hbad HAO.out) HJN.out
      obtain rfl : k = k' := by have := HJK.out; omega
      rw [HMM.out] at hM'
      subst hM' hx0
      clear HMJ hk'
      have hb0 := HJO.out.lo
      have hb1 := HJO.out.hi
      have hbx : Blk ((wr.alloc (.cells #[.slice j.A j.g.length j.cp, .string j.a, .int .i64 j.n, .int .i64 j.bud] 73)).drewN d5) wr.heap.size 73 #[.slice j.A j.g.length j.cp, .string j.a, .int .i64 j.n, .int .i64 j.bud] := (blk_at rfl).drewN d5
      have hw5 : Below w.heap.size w ((wr.alloc (.cells #[.slice j.A j.g.length j.cp, .string j.a, .int .i64 j.n, .int .i64 j.bud] 73)).drewN d5) := below_drewN (hwr.alloc hwz _) d5
      have h45 : Below w4.heap.size w4 ((wr.alloc (.cells #[.slice j.A j.g.length j.cp, .string j.a, .int .i64 j.n, .int .i64 j.bud] 73)).drewN d5) := below_drewN (h4r.alloc h4r.size _) d5
      have hr5 : Below wr.heap.size wr ((wr.alloc (.cells #[.slice j.A j.g.length j.cp, .string j.a, .int .i64 j.n, .int .i64 j.bud] 73)).drewN d5) := below_drewN ((Below.refl _ _).alloc (Nat.le_refl _) _) d5
      have hsa := HSA.out.below hr5
      generalize ((wr.alloc (.cells #[.slice j.A j.g.length j.cp, .string j.a, .int .i64 j.n, .int .i64 j.bud] 73)).drewN d5) = w5 at hbx hw5 h45 hsa ⊢
      generalize wr.heap.size = jb at hbx ⊢
      clear hr5 y0 y1 y2 y3 hlb1 HSA
      have x0 : w5.cell? ⟨jb, 0, none⟩ = some (.slice j.A j.g.length j.cp) := hbx.cell 0
      have x1 : w5.cell? ⟨jb, 1, none⟩ = some (.string j.a) := hbx.cell 1
      have x2 : w5.cell? ⟨jb, 2, none⟩ = some (.int .i64 j.n) := hbx.cell 2
      have x3 : w5.cell? ⟨jb, 3, none⟩ = some (.int .i64 j.bud) := hbx.cell 3
      have hjbl := hbx.lt
      have HSA := Lib.hid hsa
      clear hsa
      by_cases hskip : 1000 * s < j.bud.toNat ∧ 1000 * s < M
      · have g1 : 1000 * (s : Int) < j.bud := by omega
        have g2 : 1000 * (s : Int) < (M : Int) := by omega
        clear hskip hb0 hb1
        go_wp2
        go_roundw
        case rel => exact ⟨m + 1, by omega, by go_num, hw5, h45⟩
        case measure => simp [intOf]; omega
      · have hev := HEV.out (by omega)
        have hgo : ((1000 * (s : Int) < j.bud) = False) ∨ (1000 * (s : Int) < j.bud ∧ (1000 * (s : Int) < (M : Int)) = False) := by
          by_cases h : 1000 * (s : Int) < j.bud
          · exact .inr ⟨h, by simp; omega⟩
          · exact .inl (by simp; omega)
        have HEV2 := Lib.hid hev
        have HB0 := Lib.hid hb0
        have HB1 := Lib.hid hb1
        clear hev hskip HEV hb0 hb1
        rcases hgo with g1 | ⟨g1, g2⟩
        all_goals
          go_wp2_with fail
          refine (HLJ.out _ hw5).mono ?_
          rintro e w6 ⟨hb6, ⟨hbad, _⟩ | ⟨_, hbad, _⟩ | ⟨_, _, V6, c6, l6, cu6, hl6, rfl, hown6⟩⟩
          case inl => exact absurd HJO.out.look hbad
          case inr.inl => exact absurd ⟨HB0.out, HB1.out, HCS.out⟩ hbad
          rw [HEV2.out] at hl6
          injection hl6 with e1 e2
          subst e1 e2
          have hsa6 := HSA.out.below hb6
          have hw6 := hw5.trans (hb6.mono hw5.size)
          have h46 := h45.trans (hb6.mono h45.size)
          have hrd6 := Reads.of_own hown6
          have hfl := HFL.out
          have HJOk := HJO
          clear hb6 hown6 hw5 h45 HSA HLJ hbx x0 x1 x2 x3 hjbl g1 HEV2
          generalize stR js s 1000 m = x at hsa6 hrd6 hfl ⊢
          obtain ⟨va, V1, c1, rfl, hva, hca, hfa⟩ := hsa6.at_
          unfold curV
          clear hsa6
          have a0 : w6.cell? (va.add (m * 4)) = some (.slice V1 x.found.length c1) := hca 0 _ rfl
          have a1 : w6.cell? ⟨(va.add (m * 4)).block, (va.add (m * 4)).off + 1, none⟩ = some (.string x.cur.1) := by have := hca 1 _ rfl; rw [← add_add'] at this; exact this
          have a2 : w6.cell? ⟨(va.add (m * 4)).block, (va.add (m * 4)).off + 2, none⟩ = some (.bool x.cur.2) := by have := hca 2 _ rfl; rw [← add_add'] at this; exact this
          clear hca
          go_upto_region 16 with fail
          have hva2 : (va.add (m * 4)).block < w6.heap.size := by rw [add_block]; exact hva
          have hbc : Blk (w6.alloc (.cells #[.string x.cur.1, .bool x.cur.2] 50)) w6.heap.size 50 #[.string x.cur.1, .bool x.cur.2] := blk_at rfl
          have h67 : Below w6.heap.size w6 (w6.alloc (.cells #[.string x.cur.1, .bool x.cur.2] 50)) := (Below.refl _ _).alloc (Nat.le_refl _) _
          have heq := fun W (hW : Below w6.heap.size w6 W) => equalS_any V1 V6 x.found.length c1 x.found.length c6 x.found x.found w6.heap.size w6.heap.size W (hfa.below hW) (hrd6.below hW) (Nat.le_trans hfl (by decide)) (Nat.le_trans hfl (by decide))
          have HEQ := Lib.hid heq
          clear heq hfa hrd6
          generalize (w6.alloc (.cells #[.string x.cur.1, .bool x.cur.2] 50)) = w7 at hbc h67 ⊢
          generalize w6.heap.size = cb at hbc ⊢
          have hsc := run_same_cur
          refine wp_region_l (Below w7.heap.size w7) (fun _ => false) (by kernel_rfl) ?_
          have hC : Below w7.heap.size w7 w7.drew := (Below.refl _ _).drew
          generalize w7.drew = wd at hC ⊢
          apply L.rd (i := 0) rfl (by kernel_rfl) hC rfl
          · intro W hW
            skip
            unfold readW
            go_simp
            first | rfl | exact ⟨rfl, rfl⟩
          first | simp only [Act.put, List.setIfInBounds_toArray, List.set_cons_succ, List.set_cons_zero] | skip
          apply L.rd (i := 1) rfl (by kernel_rfl) hC rfl
          · intro W hW
            skip
            unfold readW
            go_simp
            first | rfl | exact ⟨rfl, rfl⟩
          first | simp only [Act.put, List.setIfInBounds_toArray, List.set_cons_succ, List.set_cons_zero] | skip
          apply L.rd (i := 2) rfl (by kernel_rfl) hC rfl
          · intro W hW
            skip
            unfold readW
            go_simp
            first | rfl | exact ⟨rfl, rfl⟩
          first | simp only [Act.put, List.setIfInBounds_toArray, List.set_cons_succ, List.set_cons_zero] | skip
          apply L.rdg (i := 3) rfl (by kernel_rfl) hC (by kernel_rfl)
          · intro W hW
            skip
            unfold readW
            go_simp
            first | rfl | exact ⟨rfl, rfl⟩
          first | simp only [Act.put, List.setIfInBounds_toArray, List.set_cons_succ, List.set_cons_zero] | skip
          apply L.rdg (i := 4) rfl (by kernel_rfl) hC (by kernel_rfl)
          · intro W hW
            skip
            unfold readW
            go_simp
            first | rfl | exact ⟨rfl, rfl⟩
          first | simp only [Act.put, List.setIfInBounds_toArray, List.set_cons_succ, List.set_cons_zero] | skip
          apply L.rdg (i := 5) rfl (by kernel_rfl) hC (by kernel_rfl)
          · intro W hW
            skip
            unfold readW
            go_simp
            first | rfl | exact ⟨rfl, rfl⟩
          first | simp only [Act.put, List.setIfInBounds_toArray, List.set_cons_succ, List.set_cons_zero] | skip
          apply L.rdg (i := 6) rfl (by kernel_rfl) hC (by kernel_rfl)
          · intro W hW
            skip
            unfold readW
            go_simp
            first | rfl | exact ⟨rfl, rfl⟩
          first | simp only [Act.put, List.setIfInBounds_toArray, List.set_cons_succ, List.set_cons_zero] | skip
          apply L.rdg (i := 7) rfl (by kernel_rfl) hC (by kernel_rfl)
          · intro W hW
            have h6 := h67.trans (hW.mono h67.size); rw [← h6.cell (p := va.add (m * 4)) hva2] at a0
            unfold readW
            go_simp
            first | rfl | exact ⟨rfl, rfl⟩
          first | simp only [Act.put, List.setIfInBounds_toArray, List.set_cons_succ, List.set_cons_zero] | skip
          apply L.rdg (i := 8) rfl (by kernel_rfl) hC (by kernel_rfl)
          · intro W hW
            skip
            unfold readW
            go_simp
            first | rfl | exact ⟨rfl, rfl⟩
          first | simp only [Act.put, List.setIfInBounds_toArray, List.set_cons_succ, List.set_cons_zero] | skip
          apply L.oneg (i := 9) rfl (by kernel_rfl) (by kernel_rfl)
          unfold stepT
          go_simp
          go_at_call 19
          refine (HEQ.out _ (h67.trans (hC.mono h67.size))).mono ?_
          rintro e wn ⟨rfl, dn, rfl⟩
          replace hC := below_drewN hC dn
          generalize (World.drewN _ dn) = wn at hC ⊢
          simp only [decide_true]
          refine ⟨_, rfl, hC, ?_⟩
          first | simp only [Act.put, List.setIfInBounds_toArray, List.set_cons_succ, List.set_cons_zero] | skip
          apply L.rdg (i := 10) rfl (by kernel_rfl) hC (by kernel_rfl)
          · intro W hW
            skip
            unfold readW
            go_simp
            first | rfl | exact ⟨rfl, rfl⟩
          first | simp only [Act.put, List.setIfInBounds_toArray, List.set_cons_succ, List.set_cons_zero] | skip
          apply L.rd (i := 11) rfl (by kernel_rfl) hC rfl
          · intro W hW
            skip
            unfold readW
            go_simp
            first | rfl | exact ⟨rfl, rfl⟩
          first | simp only [Act.put, List.setIfInBounds_toArray, List.set_cons_succ, List.set_cons_zero] | skip
          apply L.rd (i := 12) rfl (by kernel_rfl) hC rfl
          · intro W hW
            skip
            unfold readW
            go_simp
            first | rfl | exact ⟨rfl, rfl⟩
          first | simp only [Act.put, List.setIfInBounds_toArray, List.set_cons_succ, List.set_cons_zero] | skip
          apply L.rdg (i := 13) rfl (by kernel_rfl) hC (by kernel_rfl)
          · intro W hW
            skip
            unfold readW
            go_simp
            first | rfl | exact ⟨rfl, rfl⟩
          first | simp only [Act.put, List.setIfInBounds_toArray, List.set_cons_succ, List.set_cons_zero] | skip
          apply L.rdg (i := 14) rfl (by kernel_rfl) hC (by kernel_rfl)
          · intro W hW
            skip
            unfold readW
            go_simp
            first | rfl | exact ⟨rfl, rfl⟩
          first | simp only [Act.put, List.setIfInBounds_toArray, List.set_cons_succ, List.set_cons_zero] | skip
          apply L.rdg (i := 15) rfl (by kernel_rfl) hC (by kernel_rfl)
          · intro W hW
            skip
            unfold readW
            go_simp
            first | rfl | exact ⟨rfl, rfl⟩
          first | simp only [Act.put, List.setIfInBounds_toArray, List.set_cons_succ, List.set_cons_zero] | skip
          apply L.rdg (i := 16) rfl (by kernel_rfl) hC (by kernel_rfl)
          · intro W hW
            skip
            unfold readW
            go_simp
            first | rfl | exact ⟨rfl, rfl⟩
          first | simp only [Act.put, List.setIfInBounds_toArray, List.set_cons_succ, List.set_cons_zero] | skip
          apply L.rdg (i := 17) rfl (by kernel_rfl) hC (by kernel_rfl)
          · intro W hW
            have h6 := h67.trans (hW.mono h67.size); rw [← h6.cell (p := ⟨(va.add (m * 4)).block, (va.add (m * 4)).off + 1, none⟩) hva2] at a1; rw [← h6.cell (p := ⟨(va.add (m * 4)).block, (va.add (m * 4)).off + 2, none⟩) hva2] at a2
            unfold readW
            go_simp
            first | rfl | exact ⟨rfl, rfl⟩
          first | simp only [Act.put, List.setIfInBounds_toArray, List.set_cons_succ, List.set_cons_zero] | skip
          apply L.rdg (i := 18) rfl (by kernel_rfl) hC (by kernel_rfl)
          · intro W hW
            have n0 := (hbc.below hW hbc.lt).cell 0; have n1 := (hbc.below hW hbc.lt).cell 1
            unfold readW
            go_simp
            first | rfl | exact ⟨rfl, rfl⟩
          first | simp only [Act.put, List.setIfInBounds_toArray, List.set_cons_succ, List.set_cons_zero] | skip
          apply L.rdg (i := 19) rfl (by kernel_rfl) hC (by kernel_rfl)
          · intro W hW
            skip
            unfold readW
            go_simp
            first | rfl | exact ⟨rfl, rfl⟩
          first | simp only [Act.put, List.setIfInBounds_toArray, List.set_cons_succ, List.set_cons_zero] | skip
          apply L.rd (i := 20) rfl (by kernel_rfl) hC rfl
          · intro W hW
            skip
            unfold readW
            go_simp
            first | rfl | exact ⟨rfl, rfl⟩
          first | simp only [Act.put, List.setIfInBounds_toArray, List.set_cons_succ, List.set_cons_zero] | skip
          refine L.done (by kernel_rfl) ?_
          have h6 := h67.trans (hC.mono h67.size)
          have hw8 := hw6.trans (h6.mono hw6.size)
          have h48 := h46.trans (h6.mono h46.size)
          clear h6 hC a0 a1 a2 hbc hw6 h46
          go_wp2
          go_roundw
          case rel => exact ⟨m + 1, by omega, by go_num, hw8, h48⟩
          case measure => simp [intOf]; omega
    · obtain rfl : m = js.length := by omega
      go_wp2
      go_ret
      exact ⟨rfl, hwr⟩
end Go.Proofs.Ytlamphneimpdlaa
