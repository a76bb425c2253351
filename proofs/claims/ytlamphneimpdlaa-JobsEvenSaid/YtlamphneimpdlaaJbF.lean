/- The walk of the law JobsApart. -/
import Derived.Test.YtlamphneimpdlaaJbE
import Derived.Test.YtlamphneimpdlaaQSpg
namespace Go.Proofs.Ytlamphneimpdlaa
open Go.RowKit

theorem x_left : (turnsJ (accG xG) [120] 1 1 1 (startJ 9)).left = 8 := by
  simp [turnsJ, turnJ, overJ, startJ, workJ]
theorem stR_len {js : List Jb} {s r : Int} (h : JobsOk js s r) {i : Nat} {j : Jb} (hj : js[i]? = some j) : (stR js s.toNat r.toNat i).found.length ≤ 1048576 := by
  have hjok := h.2.2 j (List.mem_of_getElem? hj)
  obtain ⟨kk, hkk, hk6, hk5⟩ := hjok.look.2.2
  have hax : stR js s.toNat r.toNat i = turnsJ (accG j.g) j.a.data.toList kk s.toNat r.toNat (startJ j.bud.toNat) := by simp only [stR, hj, Jb.after, hkk, Int.toNat_natCast]
  rw [hax]
  have h1 := turns_len (acc := accG j.g) (n := kk) (s := s.toNat) (B := j.bud.toNat) (r := r.toNat) hjok.look.2.1 hk6
  rw [size_list] at h1
  omega

set_option maxRecDepth 100000 in
set_option maxHeartbeats 4000000 in
theorem walk_JobsApart {js : List Jb} {LA : Option Addr} {lc : Nat} (s r : Int) (w : World) (hin : ∀ j ∈ js, j.In w) (hr : Reads w w.heap.size 4 LA js.length (js.flatMap Jb.cells)) (hlc : js.length ≤ lc) (hrr : I64 r) :
    Calls Try.prog 9 #[.slice LA js.length lc, .int .i64 s, .int .i64 r] w fun e w' => e = .returned (.bool true) ∧ Below w.heap.size w w' := by
  have hlit := lit_b ⟨#[120]⟩
  have hone := fun W => one_b (litE ⟨#[120]⟩) _ W (litE_is W ⟨#[120]⟩ (by decide))
  have hxr := fun (W : World) (b : Nat) (row : Nat → List Value) (hG : GrIs W W.heap.size xG (some ⟨b, 0, none⟩) 1 row) => xrun_any hG 1 (by decide)
  have hrn := fun W (hW : Below w.heap.size w W) => jruns_any (lc := lc) (fun j hj => (hin j hj).grow hW) ((hr.below hW).more hW.size) s r hrr
  have hr1 := fun W (hW : Below w.heap.size w W) (j : Jb) (hj : j ∈ js) (A : Option Addr) (c : Nat) (hA : Reads W W.heap.size 4 A 1 j.cells) (hok : JobsOk js s r) => jrun1_any (lc := c) ((hin j hj).grow hW) hA s r hrr (job_one hok hj)
  unfold exCells at hlit hone
  have HL := Lib.hid hlit
  have HO := Lib.hid hone
  have HX := Lib.hid hxr
  have HRN := Lib.hid hrn
  have HR1 := Lib.hid hr1
  have HRD := Lib.hid hr
  clear hlit hone hxr hrn hr1 hin hr
  go_enter Try.func9, Try.ntmps9
  go_wp2_with fail
  refine (HL.out _).mono ?_
  rintro e w1 ⟨rfl, hb1⟩
  have hw1 : Below w.heap.size w w1 := hb1
  clear hb1
  go_wp2_with fail
  refine (HO.out _).mono ?_
  rintro e w2 ⟨b, rfl, hG, hb2⟩
  have hw2 := hw1.trans (hb2.mono hw1.size)
  clear hb2 hw1
  go_wp2_with fail
  refine (HX.out _ _ _ hG).mono ?_
  rintro e w3 ⟨hb3, V, c, rfl, hst⟩
  have hw3 := hw2.trans (hb3.mono hw2.size)
  clear hb3 hw2 hG
  have hx8 := x_left
  simp only [Int.toNat_one] at hst
  generalize turnsJ (accG xG) [120] 1 1 1 (startJ 9) = x at hst hx8
  obtain ⟨ad, V0, c0, rfl, hab, hc, -⟩ := hst.at_
  have y3 := hc 3 _ rfl
  have y3 : w3.cell? ⟨ad.block, ad.off + 3, none⟩ = some (.int .i64 8) := by rw [hx8] at y3; exact y3
  clear hc hst HX HL HO
  go_wp2_with fail
  refine (HRN.out _ hw3).mono ?_
  rintro e w4 ⟨hb4, hq⟩
  have hw4 := hw3.trans (hb4.mono hw3.size)
  clear hb4 hw3
  rcases hq with ⟨hbad, x1, h0, rfl⟩ | ⟨hok, VA, ca, rfl, hst⟩
  · have hx1 : (x1 != 0) = true := by rw [bne_iff_ne]; exact h0
    clear h0 hbad HRN HR1
    go_wp2
    go_ret
    exact ⟨rfl, hw4⟩
  have h8 : js.length ≤ 8 := hok.1
  have HST := Lib.hid hst
  have HOK := Lib.hid hok
  clear hst hok HRN
  go_wp2
  go_loopw [55] (fun i wr => ∃ m : Nat, m ≤ js.length ∧ i = .int .i64 m ∧ Below w.heap.size w wr ∧ Below w4.heap.size w4 wr) (fun i _ => js.length - (intOf i).toNat)
  case atStart => exact ⟨0, by omega, rfl, hw4, Below.refl _ _⟩
  case round =>
    obtain ⟨m, hm, rfl, hwr, h4r⟩ := hrel
    have hwz := hwr.size
    by_cases hmn : m < js.length
    · obtain ⟨j, hj⟩ : ∃ j, js[m]? = some j := ⟨_, List.getElem?_eq_getElem hmn⟩
      obtain ⟨la, rfl, hlb, hcell⟩ := HRD.out.lies (by omega)
      have hmi : (m : Int) < (js.length : Int) := by omega
      have hsub : Reads wr wr.heap.size 4 (some (la.add (m * 4))) 1 j.cells := ⟨by simp [Jb.cells], fun _ => ⟨_, rfl, by rw [add_block]; omega, fun u v hu => by
        rw [add_add', hwr.cell (by rw [add_block]; exact hlb)]
        exact hcell _ _ (jb_get hj hu)⟩⟩
      have hsm := fun (A : Option Addr) (cc : Nat) (hA : A = some (la.add (m * 4))) => HR1.out _ hwr j (List.mem_of_getElem? hj) A cc (by rw [hA]; exact hsub) HOK.out
      rw [st_one hj] at hsm
      have hfl := stR_len HOK.out hj
      have hsa := (HST.out m hmn).below h4r
      obtain ⟨x, hx⟩ : ∃ x, stR js s.toNat r.toNat m = x := ⟨_, rfl⟩
      rw [hx] at hsm hfl hsa
      have HSM := Lib.hid hsm
      clear hsm hx hsub hj hcell
      go_wp2_with fail
      refine (HSM.out _ _ rfl).mono ?_
      rintro e w5 ⟨hb5, VB, cb, rfl, hsb⟩
      have hw5 := hwr.trans (hb5.mono hwz)
      have h45 := h4r.trans (hb5.mono h4r.size)
      replace hsa := hsa.below hb5
      clear hb5 HSM
      obtain ⟨va, V1, c1, rfl, hva, hca, hfa⟩ := hsa.at_
      obtain ⟨vb, V2, c2, rfl, hvb, hcb, hfb⟩ := hsb.at_
      clear hsa hsb
      go_upto_region 13 with fail
      have a0 : w5.cell? (va.add (m * 4)) = some (.slice V1 x.found.length c1) := hca 0 _ rfl
      have a1 : w5.cell? ⟨(va.add (m * 4)).block, (va.add (m * 4)).off + 1, none⟩ = some (.string x.cur.1) := by have := hca 1 _ rfl; rw [← add_add'] at this; exact this
      have a2 : w5.cell? ⟨(va.add (m * 4)).block, (va.add (m * 4)).off + 2, none⟩ = some (.bool x.cur.2) := by have := hca 2 _ rfl; rw [← add_add'] at this; exact this
      have a3 : w5.cell? ⟨(va.add (m * 4)).block, (va.add (m * 4)).off + 3, none⟩ = some (.int .i64 x.left) := by have := hca 3 _ rfl; rw [← add_add'] at this; exact this
      have b0 : w5.cell? vb = some (.slice V2 x.found.length c2) := hcb 0 _ rfl
      have b1 : w5.cell? ⟨vb.block, vb.off + 1, none⟩ = some (.string x.cur.1) := hcb 1 _ rfl
      have b2 : w5.cell? ⟨vb.block, vb.off + 2, none⟩ = some (.bool x.cur.2) := hcb 2 _ rfl
      have b3 : w5.cell? ⟨vb.block, vb.off + 3, none⟩ = some (.int .i64 x.left) := hcb 3 _ rfl
      have hss := fun W (hW : Below w5.heap.size w5 W) => samest_any (c := c1) (c' := c2) (hfa.below hW) (hfb.below hW) hW.size hW.size (Nat.le_trans hfl (by decide))
      have HSS := Lib.hid hss
      have hva2 : (va.add (m * 4)).block < w5.heap.size := by rw [add_block]; exact hva
      clear hss hca hcb hfa hfb
      refine wp_region_l (Below w5.heap.size w5) (fun _ => false) (by kernel_rfl) ?_
      have hC : Below w5.heap.size w5 w5.drew := (Below.refl _ _).drew
      generalize w5.drew = wd at hC ⊢
      apply L.rd (i := 0) rfl (by kernel_rfl) hC rfl
      · intro W hW
        skip
        unfold readW
        go_simp
        first | rfl | exact ⟨rfl, rfl⟩
      first | simp only [Act.put, List.setIfInBounds_toArray, List.set_cons_succ, List.set_cons_zero] | skip
      apply L.rd (i := 1) rfl (by kernel_rfl) hC rfl
      · intro W hW
        skip
        unfold readW
        go_simp
        first | rfl | exact ⟨rfl, rfl⟩
      first | simp only [Act.put, List.setIfInBounds_toArray, List.set_cons_succ, List.set_cons_zero] | skip
      apply L.rd (i := 2) rfl (by kernel_rfl) hC rfl
      · intro W hW
        skip
        unfold readW
        go_simp
        first | rfl | exact ⟨rfl, rfl⟩
      first | simp only [Act.put, List.setIfInBounds_toArray, List.set_cons_succ, List.set_cons_zero] | skip
      apply L.rdg (i := 3) rfl (by kernel_rfl) hC (by kernel_rfl)
      · intro W hW
        skip
        unfold readW
        go_simp
        first | rfl | exact ⟨rfl, rfl⟩
      first | simp only [Act.put, List.setIfInBounds_toArray, List.set_cons_succ, List.set_cons_zero] | skip
      apply L.rdg (i := 4) rfl (by kernel_rfl) hC (by kernel_rfl)
      · intro W hW
        skip
        unfold readW
        go_simp
        first | rfl | exact ⟨rfl, rfl⟩
      first | simp only [Act.put, List.setIfInBounds_toArray, List.set_cons_succ, List.set_cons_zero] | skip
      apply L.rdg (i := 5) rfl (by kernel_rfl) hC (by kernel_rfl)
      · intro W hW
        skip
        unfold readW
        go_simp
        first | rfl | exact ⟨rfl, rfl⟩
      first | simp only [Act.put, List.setIfInBounds_toArray, List.set_cons_succ, List.set_cons_zero] | skip
      apply L.rd (i := 6) rfl (by kernel_rfl) hC rfl
      · intro W hW
        skip
        unfold readW
        go_simp
        first | rfl | exact ⟨rfl, rfl⟩
      first | simp only [Act.put, List.setIfInBounds_toArray, List.set_cons_succ, List.set_cons_zero] | skip
      apply L.rd (i := 7) rfl (by kernel_rfl) hC rfl
      · intro W hW
        skip
        unfold readW
        go_simp
        first | rfl | exact ⟨rfl, rfl⟩
      first | simp only [Act.put, List.setIfInBounds_toArray, List.set_cons_succ, List.set_cons_zero] | skip
      apply L.rdg (i := 8) rfl (by kernel_rfl) hC (by kernel_rfl)
      · intro W hW
        skip
        unfold readW
        go_simp
        first | rfl | exact ⟨rfl, rfl⟩
      first | simp only [Act.put, List.setIfInBounds_toArray, List.set_cons_succ, List.set_cons_zero] | skip
      apply L.rdg (i := 9) rfl (by kernel_rfl) hC (by kernel_rfl)
      · intro W hW
        skip
        unfold readW
        go_simp
        first | rfl | exact ⟨rfl, rfl⟩
      first | simp only [Act.put, List.setIfInBounds_toArray, List.set_cons_succ, List.set_cons_zero] | skip
      apply L.rdg (i := 10) rfl (by kernel_rfl) hC (by kernel_rfl)
      · intro W hW
        skip
        unfold readW
        go_simp
        first | rfl | exact ⟨rfl, rfl⟩
      first | simp only [Act.put, List.setIfInBounds_toArray, List.set_cons_succ, List.set_cons_zero] | skip
      apply L.rdg (i := 11) rfl (by kernel_rfl) hC (by kernel_rfl)
      · intro W hW
        rw [← hW.cell (p := va.add (m * 4)) hva2] at a0; rw [← hW.cell (p := ⟨(va.add (m * 4)).block, (va.add (m * 4)).off + 1, none⟩) hva2] at a1; rw [← hW.cell (p := ⟨(va.add (m * 4)).block, (va.add (m * 4)).off + 2, none⟩) hva2] at a2; rw [← hW.cell (p := ⟨(va.add (m * 4)).block, (va.add (m * 4)).off + 3, none⟩) hva2] at a3
        unfold readW
        go_simp
        first | rfl | exact ⟨rfl, rfl⟩
      first | simp only [Act.put, List.setIfInBounds_toArray, List.set_cons_succ, List.set_cons_zero] | skip
      apply L.rdg (i := 12) rfl (by kernel_rfl) hC (by kernel_rfl)
      · intro W hW
        skip
        unfold readW
        go_simp
        first | rfl | exact ⟨rfl, rfl⟩
      first | simp only [Act.put, List.setIfInBounds_toArray, List.set_cons_succ, List.set_cons_zero] | skip
      apply L.rdg (i := 13) rfl (by kernel_rfl) hC (by kernel_rfl)
      · intro W hW
        skip
        unfold readW
        go_simp
        first | rfl | exact ⟨rfl, rfl⟩
      first | simp only [Act.put, List.setIfInBounds_toArray, List.set_cons_succ, List.set_cons_zero] | skip
      apply L.rdg (i := 14) rfl (by kernel_rfl) hC (by kernel_rfl)
      · intro W hW
        rw [← hW.cell (p := vb) hvb] at b0; rw [← hW.cell (p := ⟨vb.block, vb.off + 1, none⟩) hvb] at b1; rw [← hW.cell (p := ⟨vb.block, vb.off + 2, none⟩) hvb] at b2; rw [← hW.cell (p := ⟨vb.block, vb.off + 3, none⟩) hvb] at b3
        unfold readW
        go_simp
        first | rfl | exact ⟨rfl, rfl⟩
      first | simp only [Act.put, List.setIfInBounds_toArray, List.set_cons_succ, List.set_cons_zero] | skip
      apply L.oneg (i := 15) rfl (by kernel_rfl) (by kernel_rfl)
      unfold stepT
      go_simp
      go_at_call 38
      refine (HSS.out _ hC).mono ?_
      rintro e wn ⟨rfl, hbn⟩
      replace hC := hC.trans (hbn.mono hC.size)
      clear hbn
      refine ⟨_, rfl, hC, ?_⟩
      first | simp only [Act.put, List.setIfInBounds_toArray, List.set_cons_succ, List.set_cons_zero] | skip
      apply L.rdg (i := 16) rfl (by kernel_rfl) hC (by kernel_rfl)
      · intro W hW
        skip
        unfold readW
        go_simp
        first | rfl | exact ⟨rfl, rfl⟩
      first | simp only [Act.put, List.setIfInBounds_toArray, List.set_cons_succ, List.set_cons_zero] | skip
      apply L.rd (i := 17) rfl (by kernel_rfl) hC rfl
      · intro W hW
        skip
        unfold readW
        go_simp
        first | rfl | exact ⟨rfl, rfl⟩
      first | simp only [Act.put, List.setIfInBounds_toArray, List.set_cons_succ, List.set_cons_zero] | skip
      refine L.done (by kernel_rfl) ?_
      replace hw5 := hw5.trans (hC.mono hw5.size)
      replace h45 := h45.trans (hC.mono h45.size)
      clear hC a0 a1 a2 a3 b0 b1 b2 b3
      go_wp2
      go_roundw
      case rel => exact ⟨m + 1, by omega, by go_num, hw5, h45⟩
      case measure => simp [intOf]; omega
    · obtain rfl : m = js.length := by omega
      go_wp2
      go_ret
      exact ⟨rfl, hwr⟩
end Go.Proofs.Ytlamphneimpdlaa
