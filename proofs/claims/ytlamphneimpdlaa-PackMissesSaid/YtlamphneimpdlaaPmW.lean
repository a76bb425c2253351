/- The walk of the law PackMisses. -/
import Derived.Test.YtlamphneimpdlaaPmC
import Derived.Test.YtlamphneimpdlaaPlA
import Derived.Test.YtlamphneimpdlaaLsH
import Derived.Deep.DeepCutAuto
namespace Go.Proofs.Ytlamphneimpdlaa
open Go.RowKit

set_option maxRecDepth 100000 in
set_option maxHeartbeats 8000000 in
theorem walk_PackMisses {g : List Rl} {A : Option Addr} {cp : Nat} {row : Nat → List Value} (s : ByteArray) (w : World) (hg : GrIs w w.heap.size g A cp row) (hwf : ∀ r ∈ g, WfE r.2) :
    Calls Try.prog 12 #[.agg #[.slice A g.length cp], .string s] w fun e w' => e = .returned (.bool true) ∧ Below w.heap.size w w' := by
  have hlit := lit_b ⟨#[120, 121]⟩
  have hone := fun W => one_b (litE ⟨#[120, 121]⟩) _ W (litE_is W ⟨#[120, 121]⟩ (by decide))
  have hfar := fun W (hW : Below w.heap.size w W) => far_any (hg.grow hW) hwf s
  have hrun := fun W (hW : Below w.heap.size w W) => run_any (hg.grow hW) hwf s
  have hrg := fun W => range_any 121 121 W (by unfold I64; omega) (by unfold I64; omega) 121 1 (by omega) (by omega)
  rw [mx_range] at hrg
  unfold exCells at hlit hone
  have hgcap := hg.cap
  have hgle := hg.le
  unfold maxLen at hgcap
  have HL := Lib.hid hlit
  have HO := Lib.hid hone
  have HFAR := Lib.hid hfar
  have HRUN := Lib.hid hrun
  have HRG := Lib.hid hrg
  have HWF := Lib.hid hwf
  have HG := Lib.hid hg
  clear hlit hone hfar hrun hrg hg hwf
  go_enter Try.func12, Try.ntmps12
  go_wp2_with fail
  refine (HL.out _).mono ?_
  rintro e w1 ⟨rfl, hb1⟩
  have hgx : Blk w1 w.heap.size 24 #[.slice A g.length cp] := (blk_at rfl).below hb1 (by first | omega | (simp; omega) | simp)
  have hw1 : Below w.heap.size w w1 := ((Below.refl _ w).alloc (Nat.le_refl _) _).trans (hb1.mono (by first | omega | (simp; omega) | simp))
  clear hb1
  go_wp2_with fail
  refine (HO.out _).mono ?_
  rintro e w2 ⟨b1, rfl, hG1, hb2⟩
  replace hgx := hgx.below hb2 hgx.lt
  replace hw1 := hw1.trans (hb2.mono hw1.size)
  clear hb2
  have hf1 := far_any hG1 (wf_g1 (wf_lit _)) mxS
  have HF1 := Lib.hid hf1
  clear hf1 hG1
  go_wp2_with fail
  refine HF1.out.mono ?_
  rintro e w3 ⟨hb3, hq⟩
  replace hgx := hgx.below hb3 hgx.lt
  replace hw1 := hw1.trans (hb3.mono hw1.size)
  clear hb3 HF1
  rcases hq with ⟨hbad, _⟩ | ⟨_, o1, σ1, m1, hpk, rfl⟩
  · exact absurd mx_look hbad
  obtain ⟨q1, q2, q3, q4, q5⟩ := mx_far hpk
  rw [q1, q2, q3, q4, q5]
  clear q1 q2 q3 q4 q5 hpk
  have hz3 := hw1.size
  have hl3 := hgx.lt
  go_upto_region 2 with fail
  have hbx : Blk (w3.alloc (.cells #[.int .u64 0, .int .u64 144115188075855872, .int .u64 0, .int .u64 0] 32)) w3.heap.size 32 #[.int .u64 0, .int .u64 144115188075855872, .int .u64 0, .int .u64 0] := blk_at rfl
  replace hgx := hgx.alloc (.cells #[.int .u64 0, .int .u64 144115188075855872, .int .u64 0, .int .u64 0] 32)
  replace hw1 := hw1.alloc hz3 (.cells #[.int .u64 0, .int .u64 144115188075855872, .int .u64 0, .int .u64 0] 32)
  generalize (w3.alloc (.cells #[.int .u64 0, .int .u64 144115188075855872, .int .u64 0, .int .u64 0] 32)) = w4 at hbx hgx hw1 ⊢
  generalize w3.heap.size = xb at hbx ⊢
  clear hz3 hl3
  have hsame := fun w => run_same_set w 0 144115188075855872 0 0 0 144115188075855872 0 0
  rw [show ((0 : Int) == 0 && ((144115188075855872 : Int) == 144115188075855872 && ((0 : Int) == 0 && (0 : Int) == 0))) = true from by decide] at hsame
  refine wp_region_l (Below w4.heap.size w4) (fun _ => false) (by kernel_rfl) ?_
  have hC : Below w4.heap.size w4 w4.drew := (Below.refl _ _).drew
  generalize w4.drew = wd at hC ⊢
  apply L.rd (i := 0) rfl (by kernel_rfl) hC rfl
  · intro W hW
    skip
    unfold readW
    go_simp
    first | rfl | exact ⟨rfl, rfl⟩
  first | simp only [Act.put, List.setIfInBounds_toArray, List.set_cons_succ, List.set_cons_zero] | skip
  apply L.rd (i := 1) rfl (by kernel_rfl) hC rfl
  · intro W hW
    skip
    unfold readW
    go_simp
    first | rfl | exact ⟨rfl, rfl⟩
  first | simp only [Act.put, List.setIfInBounds_toArray, List.set_cons_succ, List.set_cons_zero] | skip
  apply L.rd (i := 2) rfl (by kernel_rfl) hC rfl
  · intro W hW
    skip
    unfold readW
    go_simp
    first | rfl | exact ⟨rfl, rfl⟩
  first | simp only [Act.put, List.setIfInBounds_toArray, List.set_cons_succ, List.set_cons_zero] | skip
  apply L.rdg (i := 3) rfl (by kernel_rfl) hC (by kernel_rfl)
  · intro W hW
    have n0 := (hbx.below hW hbx.lt).cell 0; have n1 := (hbx.below hW hbx.lt).cell 1; have n2 := (hbx.below hW hbx.lt).cell 2; have n3 := (hbx.below hW hbx.lt).cell 3
    unfold readW
    go_simp
    first | rfl | exact ⟨rfl, rfl⟩
  first | simp only [Act.put, List.setIfInBounds_toArray, List.set_cons_succ, List.set_cons_zero] | skip
  apply L.oneg (i := 4) rfl (by kernel_rfl) (by kernel_rfl)
  unfold stepT
  go_simp
  go_at_call 45
  refine (HRG.out _).mono ?_
  rintro e wn ⟨rfl, hbn⟩
  replace hC := hC.trans (hbn.mono hC.size)
  clear hbn
  refine ⟨_, rfl, hC, ?_⟩
  first | simp only [Act.put, List.setIfInBounds_toArray, List.set_cons_succ, List.set_cons_zero] | skip
  apply L.rdg (i := 5) rfl (by kernel_rfl) hC (by kernel_rfl)
  · intro W hW
    skip
    unfold readW
    go_simp
    first | rfl | exact ⟨rfl, rfl⟩
  first | simp only [Act.put, List.setIfInBounds_toArray, List.set_cons_succ, List.set_cons_zero] | skip
  apply L.rd (i := 6) rfl (by kernel_rfl) hC rfl
  · intro W hW
    skip
    unfold readW
    go_simp
    first | rfl | exact ⟨rfl, rfl⟩
  first | simp only [Act.put, List.setIfInBounds_toArray, List.set_cons_succ, List.set_cons_zero] | skip
  apply L.rd (i := 7) rfl (by kernel_rfl) hC rfl
  · intro W hW
    skip
    unfold readW
    go_simp
    first | rfl | exact ⟨rfl, rfl⟩
  first | simp only [Act.put, List.setIfInBounds_toArray, List.set_cons_succ, List.set_cons_zero] | skip
  apply L.rdg (i := 8) rfl (by kernel_rfl) hC (by kernel_rfl)
  · intro W hW
    skip
    unfold readW
    go_simp
    first | rfl | exact ⟨rfl, rfl⟩
  first | simp only [Act.put, List.setIfInBounds_toArray, List.set_cons_succ, List.set_cons_zero] | skip
  apply L.rdg (i := 9) rfl (by kernel_rfl) hC (by kernel_rfl)
  · intro W hW
    skip
    unfold readW
    go_simp
    first | rfl | exact ⟨rfl, rfl⟩
  first | simp only [Act.put, List.setIfInBounds_toArray, List.set_cons_succ, List.set_cons_zero] | skip
  apply L.rd (i := 10) rfl (by kernel_rfl) hC rfl
  · intro W hW
    skip
    unfold readW
    go_simp
    first | rfl | exact ⟨rfl, rfl⟩
  first | simp only [Act.put, List.setIfInBounds_toArray, List.set_cons_succ, List.set_cons_zero] | skip
  refine L.done (by kernel_rfl) ?_
  replace hgx := hgx.below hC hgx.lt
  replace hw1 := hw1.trans (hC.mono hw1.size)
  clear hC hbx HL HO HRG hsame
  have g0 : wn.cell? ⟨w.heap.size, 0, none⟩ = some (.slice A g.length cp) := hgx.cell 0
  go_wp2_with fail
  refine (HFAR.out _ hw1).mono ?_
  rintro e w5 ⟨hb5, hq⟩
  replace hgx := hgx.below hb5 hgx.lt
  replace hw1 := hw1.trans (hb5.mono hw1.size)
  clear hb5 g0 HFAR
  have hz5 := hw1.size
  have hl5 := hgx.lt
  rcases hq with ⟨hbad, rfl⟩ | ⟨hl0, o1, σ1, m1, hpk, rfl⟩
  · have hxb : (lookG g s != 0) = true := by rw [bne_iff_ne]; exact hbad
    generalize lookG g s = x at hxb
    clear hbad
    go_wp2
    go_ret
    exact ⟨rfl, (by repeat (first | exact Below.refl _ _ | assumption | refine Below.drew ?_ | refine below_drewN ?_ _ | refine Below.alloc ?_ (by first | omega | (simp; omega) | simp) _ | refine Below.setCell ?_ (by first | omega | (simp; omega) | simp) _))⟩
  obtain ⟨hmi, hfi⟩ := far_facts hl0 HWF.out hpk
  have HFI := Lib.hid hfi
  have HPK := Lib.hid hpk
  have HL0 := Lib.hid hl0
  obtain ⟨hu4, hmi⟩ := hmi
  have hsl : s.data.toList.length = s.size := size_list s
  have W := (look_zero hl0).1
  have HRT : Hid (∀ r ∈ g, checkE r.2 = 0) := W.right.body
  have HSZ : Hid (∀ (j : Nat) (r : Rl), g[j]? = some r → nodes r.2 ≤ 60) := fun j r hr => sixty_of W.right r (List.mem_of_getElem? hr)
  clear W
  generalize hzf : σ1.far = zf at hmi
  generalize hza : σ1.want = zw at hmi hu4
  obtain ⟨za, zb, zc, zd⟩ := zw
  simp only
  have HZF := Lib.hid hzf
  clear hfi hpk hl0 hzf hza
  have hbx : Blk (w5.alloc (.cells #[.int .u64 za, .int .u64 zb, .int .u64 zc, .int .u64 zd] 32)) w5.heap.size 32 #[.int .u64 za, .int .u64 zb, .int .u64 zc, .int .u64 zd] := blk_at rfl
  replace hgx := hgx.alloc (.cells #[.int .u64 za, .int .u64 zb, .int .u64 zc, .int .u64 zd] 32)
  replace hw1 := hw1.alloc hz5 (.cells #[.int .u64 za, .int .u64 zb, .int .u64 zc, .int .u64 zd] 32)
  go_upto_region 7 with fail
  generalize (w5.alloc (.cells #[.int .u64 za, .int .u64 zb, .int .u64 zc, .int .u64 zd] 32)) = w6 at hbx hgx hw1 ⊢
  generalize w5.heap.size = xc at hbx ⊢
  clear hz5 hl5
  have g0 : w6.cell? ⟨w.heap.size, 0, none⟩ = some (.slice A g.length cp) := hgx.cell 0
  go_wp2_with fail
  refine (HRUN.out _ hw1).mono ?_
  rintro e w7 ⟨hb7, hq⟩
  replace hgx := hgx.below hb7 hgx.lt
  replace hbx := hbx.below hb7 hbx.lt
  replace hw1 := hw1.trans (hb7.mono hw1.size)
  clear hb7 g0 HRUN
  rcases hq with ⟨hbad, _⟩ | ⟨_, o2, σ2, V2, cp2, l2, ⟨m2, hpk2⟩, -, -, -, rfl, -⟩
  · exact absurd HL0.out hbad
  obtain ⟨rfl, -⟩ : o1 = o2 ∧ σ1 = σ2 := by have := pk_one HPK.out hpk2; simpa using this
  clear hpk2
  obtain ⟨vn, hvo⟩ : ∃ (n : Int), outV o1 = .agg #[.bool o1.isSome, .int .i64 n] := ⟨_, outV_eq o1⟩
  rw [hvo]
  clear hvo
  have hz7 := hw1.size
  have hl7 := hgx.lt
  have hl8 := hbx.lt
  have hox : Blk (w7.alloc (.cells #[.bool o1.isSome, .int .i64 vn] 96)) w7.heap.size 96 #[.bool o1.isSome, .int .i64 vn] := blk_at rfl
  replace hgx := hgx.alloc (.cells #[.bool o1.isSome, .int .i64 vn] 96)
  replace hbx := hbx.alloc (.cells #[.bool o1.isSome, .int .i64 vn] 96)
  replace hw1 := hw1.alloc hz7 (.cells #[.bool o1.isSome, .int .i64 vn] 96)
  go_upto_region 8 with fail
  generalize (w7.alloc (.cells #[.bool o1.isSome, .int .i64 vn] 96)) = w8 at hbx hgx hw1 hox ⊢
  generalize w7.heap.size = xo at hox ⊢
  clear hz7 hl7 hl8
  rcases hmi with ⟨rfl, hno⟩ | ⟨q, rfl, hq, hnot⟩
  · obtain ⟨rfl, rfl, rfl, rfl⟩ : za = 0 ∧ zb = 0 ∧ zc = 0 ∧ zd = 0 := by unfold noS at hno; injection hno with a b c d; exact ⟨a, b, c, d⟩
    have hsame := fun w => run_same_set w 0 0 0 0 0 0 0 0
    rw [show ((0 : Int) == 0 && ((0 : Int) == 0 && ((0 : Int) == 0 && (0 : Int) == 0))) = true from by decide] at hsame
    have k0 := hbx.cell 0
    have k1 := hbx.cell 1
    have k2 := hbx.cell 2
    have k3 := hbx.cell 3
    simp at k0 k1 k2 k3
    go_upto_region 10 with fail
    refine wp_region_l (fun _ => True) (fun _ => false) (by kernel_rfl) ?_
    have hC : True := trivial
    apply L.rd (i := 0) rfl (by kernel_rfl) hC rfl
    · intro W hW
      skip
      unfold readW
      go_simp
      first | rfl | exact ⟨rfl, rfl⟩
    first | simp only [Act.put, List.setIfInBounds_toArray, List.set_cons_succ, List.set_cons_zero] | skip
    apply L.rd (i := 1) rfl (by kernel_rfl) hC rfl
    · intro W hW
      skip
      unfold readW
      go_simp
      first | rfl | exact ⟨rfl, rfl⟩
    first | simp only [Act.put, List.setIfInBounds_toArray, List.set_cons_succ, List.set_cons_zero] | skip
    apply L.rd (i := 2) rfl (by kernel_rfl) hC rfl
    · intro W hW
      skip
      unfold readW
      go_simp
      first | rfl | exact ⟨rfl, rfl⟩
    first | simp only [Act.put, List.setIfInBounds_toArray, List.set_cons_succ, List.set_cons_zero] | skip
    apply L.skip (i := 3) rfl (by kernel_rfl) hC (by kernel_rfl)
    first | simp only [Act.put, List.setIfInBounds_toArray, List.set_cons_succ, List.set_cons_zero] | skip
    apply L.skip (i := 4) rfl (by kernel_rfl) hC (by kernel_rfl)
    first | simp only [Act.put, List.setIfInBounds_toArray, List.set_cons_succ, List.set_cons_zero] | skip
    apply L.skip (i := 5) rfl (by kernel_rfl) hC (by kernel_rfl)
    first | simp only [Act.put, List.setIfInBounds_toArray, List.set_cons_succ, List.set_cons_zero] | skip
    apply L.skip (i := 6) rfl (by kernel_rfl) hC (by kernel_rfl)
    first | simp only [Act.put, List.setIfInBounds_toArray, List.set_cons_succ, List.set_cons_zero] | skip
    apply L.rd (i := 7) rfl (by kernel_rfl) hC rfl
    · intro W hW
      skip
      unfold readW
      go_simp
      first | rfl | exact ⟨rfl, rfl⟩
    first | simp only [Act.put, List.setIfInBounds_toArray, List.set_cons_succ, List.set_cons_zero] | skip
    apply L.rd (i := 8) rfl (by kernel_rfl) hC rfl
    · intro W hW
      skip
      unfold readW
      go_simp
      first | rfl | exact ⟨rfl, rfl⟩
    first | simp only [Act.put, List.setIfInBounds_toArray, List.set_cons_succ, List.set_cons_zero] | skip
    apply L.skip (i := 9) rfl (by kernel_rfl) hC (by kernel_rfl)
    first | simp only [Act.put, List.setIfInBounds_toArray, List.set_cons_succ, List.set_cons_zero] | skip
    apply L.skip (i := 10) rfl (by kernel_rfl) hC (by kernel_rfl)
    first | simp only [Act.put, List.setIfInBounds_toArray, List.set_cons_succ, List.set_cons_zero] | skip
    apply L.skip (i := 11) rfl (by kernel_rfl) hC (by kernel_rfl)
    first | simp only [Act.put, List.setIfInBounds_toArray, List.set_cons_succ, List.set_cons_zero] | skip
    apply L.skip (i := 12) rfl (by kernel_rfl) hC (by kernel_rfl)
    first | simp only [Act.put, List.setIfInBounds_toArray, List.set_cons_succ, List.set_cons_zero] | skip
    apply L.skip (i := 13) rfl (by kernel_rfl) hC (by kernel_rfl)
    first | simp only [Act.put, List.setIfInBounds_toArray, List.set_cons_succ, List.set_cons_zero] | skip
    apply L.rd (i := 14) rfl (by kernel_rfl) hC rfl
    · intro W hW
      skip
      unfold readW
      go_simp
      first | rfl | exact ⟨rfl, rfl⟩
    first | simp only [Act.put, List.setIfInBounds_toArray, List.set_cons_succ, List.set_cons_zero] | skip
    refine L.done (by kernel_rfl) ?_
    replace hgx := hgx.drew
    replace hox := hox.drew
    replace hw1 := hw1.drew
    clear hbx k0 k1 k2 k3 hsame hC
    generalize w8.drew = wq at hgx hox hw1 ⊢
    have hend : (o1.isSome || g.any fun r => notE r.2) = true := by
      cases hx : g.any fun r => notE r.2 with
      | true => simp
      | false =>
        have h1 := HFI.out (fun r hr => by rw [List.any_eq_false] at hx; simpa using hx r hr)
        cases ho : o1 with
        | none =>
          have := h1 ho
          rw [HZF.out] at this
          omega
        | some q => rfl
    have HEND := Lib.hid hend
    clear hend
    have g1 : wq.cell? ⟨w.heap.size, 0, none⟩ = some (.slice A g.length cp) := hgx.cell 0
    go_wp2
    go_loopw [13, 15, 91] (fun v _ i wr => ∃ j : Nat, j ≤ g.length ∧ i = .int .i64 j ∧ v = .bool ((g.take j).any fun r => notE r.2) ∧ Below wq.heap.size wq wr) (fun _ _ i _ => g.length - (intOf i).toNat)
    case atStart => exact ⟨0, by omega, rfl, rfl, Below.refl _ _⟩
    case round =>
      obtain ⟨j, hj, rfl, rfl, hqr⟩ := hrel
      have hbw := hw1.trans (hqr.mono hw1.size)
      have hzw := hbw.size
      have hzq := hqr.size
      by_cases hjn : j < g.length
      · obtain ⟨ad, nm, k', a', b', c', d', t', ks', A', cp', rfl, hab, hej, -, hE, hS⟩ := HG.out.rule hjn
        have hcc : Eight wr (ad.add (j * 8)) nm k' a' b' c' d' t' A' ks'.length cp' :=
          have hk := fun (q : Addr) (hq : q.block = (ad.add (j * 8)).block) => hbw.cell (p := q) (by rw [hq, add_block]; omega)
          ⟨(hk _ rfl).trans hS.c0, (hk ⟨_, _, none⟩ rfl).trans hS.c1, (hk ⟨_, _, none⟩ rfl).trans hS.c2, (hk ⟨_, _, none⟩ rfl).trans hS.c3, (hk ⟨_, _, none⟩ rfl).trans hS.c4, (hk ⟨_, _, none⟩ rfl).trans hS.c5, (hk ⟨_, _, none⟩ rfl).trans hS.c6, (hk ⟨_, _, none⟩ rfl).trans hS.c7⟩
        obtain ⟨y0, y1, y2, y3, y4, y5, y6, y7⟩ := hcc
        have had1 : ad.block < wr.heap.size := by omega
        have hjl : (j : Int) < (g.length : Int) := by omega
        have hR := HRT.out _ (List.mem_of_getElem? hej)
        have h60n := HSZ.out j _ hej
        simp only at h60n
        have hsn : (g.take (j + 1)).any (fun r => notE r.2) = ((g.take j).any (fun r => notE r.2) || notE (.mk k' a' b' c' d' t' ks')) := by
          rw [take_succ_of hej, List.any_append]
          simp
        have HSN := Lib.hid hsn
        have hnd := fun W (hW : Below w.heap.size w W) => nodes_any hR (hE.grow hW)
        have HND := Lib.hid hnd
        clear hnd hsn hR hS hE hej
        generalize hb : (g.take j).any (fun r => notE r.2) = b
        rw [hb] at HSN
        clear hb
        cases b
        · go_wp2_with fail
          refine (HND.out _ (by repeat (first | exact Below.refl _ _ | assumption | refine Below.drew ?_ | refine below_drewN ?_ _ | refine Below.alloc ?_ (by first | omega | (simp; omega) | simp) _ | refine Below.setCell ?_ (by first | omega | (simp; omega) | simp) _))).mono ?_
          rintro e w9 ⟨hb9, V9, c9, l9, rfl, hl9, hok9, hown9⟩
          have hq9 : Below wq.heap.size wq w9 := Below.trans (by repeat (first | exact Below.refl _ _ | assumption | refine Below.drew ?_ | refine below_drewN ?_ _ | refine Below.alloc ?_ (by first | omega | (simp; omega) | simp) _ | refine Below.setCell ?_ (by first | omega | (simp; omega) | simp) _)) (hb9.mono (by first | omega | (simp; omega) | simp))
          have h60 : l9.length ≤ 60 := by
            have h1 := congrArg List.length hl9
            rw [List.length_map, preD_len] at h1
            have h2 := h60n
            omega
          have hcn := containsN_any hok9 hown9 h60
          have hany : (l9.any fun x => kindN x.1 == 11) = notE (.mk k' a' b' c' d' t' ks') := by
            unfold notE
            rw [← hl9, List.any_map]
            rfl
          rw [hany] at hcn
          have HCN := Lib.hid hcn
          clear hcn hany hl9 hok9 hown9 hb9
          go_wp2_with fail
          refine HCN.out.mono ?_
          rintro e w10 ⟨rfl, hb10⟩
          have hq10 := hq9.trans (hb10.mono hq9.size)
          clear hb10
          go_wp2
          go_roundw
          case rel => exact ⟨j + 1, by omega, by go_num, by rw [HSN.out, Bool.false_or], hq10⟩
          case measure => simp [intOf]; omega
        · go_wp2
          go_roundw
          case rel => exact ⟨j + 1, by omega, by go_num, by rw [HSN.out, Bool.true_or], (by repeat (first | exact Below.refl _ _ | assumption | refine Below.drew ?_ | refine below_drewN ?_ _ | refine Below.alloc ?_ (by first | omega | (simp; omega) | simp) _ | refine Below.setCell ?_ (by first | omega | (simp; omega) | simp) _))⟩
          case measure => simp [intOf]; omega
      · obtain rfl : j = g.length := by omega
        have ho := hox.below hqr hox.lt
        have o0 : wr.cell? ⟨xo, 0, none⟩ = some (.bool o1.isSome) := ho.cell 0
        have hol := ho.lt
        rw [List.take_length]
        generalize g.any (fun r => notE r.2) = b at HEND ⊢
        generalize o1.isSome = b2 at HEND o0 ⊢
        cases b2
        · cases b
          · exact absurd HEND.out (by decide)
          · go_wp2
            go_ret
            exact ⟨rfl, (by repeat (first | exact Below.refl _ _ | assumption | refine Below.drew ?_ | refine below_drewN ?_ _ | refine Below.alloc ?_ (by first | omega | (simp; omega) | simp) _ | refine Below.setCell ?_ (by first | omega | (simp; omega) | simp) _))⟩
        · go_wp2
          go_ret
          exact ⟨rfl, (by repeat (first | exact Below.refl _ _ | assumption | refine Below.drew ?_ | refine below_drewN ?_ _ | refine Below.alloc ?_ (by first | omega | (simp; omega) | simp) _ | refine Below.setCell ?_ (by first | omega | (simp; omega) | simp) _))⟩
  · have hsame := fun w => run_same_set w za zb zc zd 0 0 0 0
    generalize hz0 : (za == 0 && (zb == 0 && (zc == 0 && zd == 0))) = z0 at hsame
    have hqn : ((q : Int) == -1) = false := by rw [beq_eq_false_iff_ne]; omega
    have hqs : (s.size : Int) ≥ (q : Int) := by omega
    have hqs2 : ((s.size : Int) < (q : Int)) = False := by simp; omega
    have hqm : ((q : Int) < -1) = False := by simp
    have hq0 : (0 : Int) ≤ (q : Int) := by omega
    have hbl := hbx.lt
    have HEND : Hid ((o1.isSome || (g.any fun r => notE r.2) || true) = true) := by show _ = _; simp
    go_upto_region 10 with fail
    by_cases hlt : q < s.size
    · have hno := hnot (by omega)
      have hbt := bt_of hlt
      have hwd : Words [za.toNat, zb.toNat, zc.toNat, zd.toNat] := fun i => by
        have a1 := hu4.a
        have a2 := hu4.b
        have a3 := hu4.c
        have a4 := hu4.d
        unfold U64 at a1 a2 a3 a4
        match i with
        | 0 => simp only [List.getD_cons_zero]; simp at a1; omega
        | 1 => simp only [List.getD_cons_zero, List.getD_cons_succ]; simp at a2; omega
        | 2 => simp only [List.getD_cons_zero, List.getD_cons_succ]; simp at a3; omega
        | 3 => simp only [List.getD_cons_zero, List.getD_cons_succ]; simp at a4; omega
        | i + 4 => simp
      have hh := has_any _ hwd (bt s.data.toList q) (bt_lt _ _)
      have hx : hasN [za.toNat, zb.toNat, zc.toNat, zd.toNat] (bt s.data.toList q) = false := hno
      rw [hx] at hh
      unfold vals at hh
      have e1 : ((za.toNat : Nat) : Int) = za := Int.toNat_of_nonneg hu4.a.1
      have e2 : ((zb.toNat : Nat) : Int) = zb := Int.toNat_of_nonneg hu4.b.1
      have e3 : ((zc.toNat : Nat) : Int) = zc := Int.toNat_of_nonneg hu4.c.1
      have e4 : ((zd.toNat : Nat) : Int) = zd := Int.toNat_of_nonneg hu4.d.1
      simp only [List.getD_cons_zero, List.getD_cons_succ, e1, e2, e3, e4] at hh
      have HH := Lib.hid hh
      clear hh hx hwd hno hnot e1 e2 e3 e4 hsame hz0
      have hlti : (q : Int) < (s.size : Int) := by omega
      generalize bt s.data.toList q = y at hbt HH
      refine wp_region_l (Below w8.heap.size w8) (fun _ => false) (by kernel_rfl) ?_
      have hC : Below w8.heap.size w8 w8.drew := (Below.refl _ _).drew
      generalize w8.drew = wd2 at hC ⊢
      apply L.rd (i := 0) rfl (by kernel_rfl) hC rfl
      · intro W hW
        skip
        unfold readW
        go_simp
        first | rfl | exact ⟨rfl, rfl⟩
      first | simp only [Act.put, List.setIfInBounds_toArray, List.set_cons_succ, List.set_cons_zero] | skip
      apply L.rd (i := 1) rfl (by kernel_rfl) hC rfl
      · intro W hW
        skip
        unfold readW
        go_simp
        first | rfl | exact ⟨rfl, rfl⟩
      first | simp only [Act.put, List.setIfInBounds_toArray, List.set_cons_succ, List.set_cons_zero] | skip
      apply L.rd (i := 2) rfl (by kernel_rfl) hC rfl
      · intro W hW
        skip
        unfold readW
        go_simp
        first | rfl | exact ⟨rfl, rfl⟩
      first | simp only [Act.put, List.setIfInBounds_toArray, List.set_cons_succ, List.set_cons_zero] | skip
      apply L.rdg (i := 3) rfl (by kernel_rfl) hC (by kernel_rfl)
      · intro W hW
        skip
        unfold readW
        go_simp
        first | rfl | exact ⟨rfl, rfl⟩
      first | simp only [Act.put, List.setIfInBounds_toArray, List.set_cons_succ, List.set_cons_zero] | skip
      apply L.rdg (i := 4) rfl (by kernel_rfl) hC (by kernel_rfl)
      · intro W hW
        skip
        unfold readW
        go_simp
        first | rfl | exact ⟨rfl, rfl⟩
      first | simp only [Act.put, List.setIfInBounds_toArray, List.set_cons_succ, List.set_cons_zero] | skip
      apply L.rdg (i := 5) rfl (by kernel_rfl) hC (by kernel_rfl)
      · intro W hW
        skip
        unfold readW
        go_simp
        first | rfl | exact ⟨rfl, rfl⟩
      first | simp only [Act.put, List.setIfInBounds_toArray, List.set_cons_succ, List.set_cons_zero] | skip
      apply L.rdg (i := 6) rfl (by kernel_rfl) hC (by kernel_rfl)
      · intro W hW
        skip
        unfold readW
        go_simp
        first | rfl | exact ⟨rfl, rfl⟩
      first | simp only [Act.put, List.setIfInBounds_toArray, List.set_cons_succ, List.set_cons_zero] | skip
      apply L.rd (i := 7) rfl (by kernel_rfl) hC rfl
      · intro W hW
        skip
        unfold readW
        go_simp
        first | rfl | exact ⟨rfl, rfl⟩
      first | simp only [Act.put, List.setIfInBounds_toArray, List.set_cons_succ, List.set_cons_zero] | skip
      apply L.rd (i := 8) rfl (by kernel_rfl) hC rfl
      · intro W hW
        skip
        unfold readW
        go_simp
        first | rfl | exact ⟨rfl, rfl⟩
      first | simp only [Act.put, List.setIfInBounds_toArray, List.set_cons_succ, List.set_cons_zero] | skip
      apply L.rdg (i := 9) rfl (by kernel_rfl) hC (by kernel_rfl)
      · intro W hW
        have n0 := (hbx.below hW hbl).cell 0; have n1 := (hbx.below hW hbl).cell 1; have n2 := (hbx.below hW hbl).cell 2; have n3 := (hbx.below hW hbl).cell 3
        unfold readW
        go_simp
        first | rfl | exact ⟨rfl, rfl⟩
      first | simp only [Act.put, List.setIfInBounds_toArray, List.set_cons_succ, List.set_cons_zero] | skip
      apply L.rdg (i := 10) rfl (by kernel_rfl) hC (by kernel_rfl)
      · intro W hW
        skip
        unfold readW
        go_simp
        first | rfl | exact ⟨rfl, rfl⟩
      first | simp only [Act.put, List.setIfInBounds_toArray, List.set_cons_succ, List.set_cons_zero] | skip
      apply L.rdg (i := 11) rfl (by kernel_rfl) hC (by kernel_rfl)
      · intro W hW
        skip
        unfold readW
        go_simp
        first | rfl | exact ⟨rfl, rfl⟩
      first | simp only [Act.put, List.setIfInBounds_toArray, List.set_cons_succ, List.set_cons_zero] | skip
      apply L.rdg (i := 12) rfl (by kernel_rfl) hC (by kernel_rfl)
      · intro W hW
        skip
        unfold readW
        go_simp
        first | rfl | exact ⟨rfl, rfl⟩
      first | simp only [Act.put, List.setIfInBounds_toArray, List.set_cons_succ, List.set_cons_zero] | skip
      apply L.oneg (i := 13) rfl (by kernel_rfl) (by kernel_rfl)
      unfold stepT
      go_simp
      go_at_call 47
      refine (HH.out _).mono ?_
      rintro e wn ⟨rfl, hbn⟩
      replace hC := hC.trans (hbn.mono hC.size)
      clear hbn
      refine ⟨_, rfl, hC, ?_⟩
      first | simp only [Act.put, List.setIfInBounds_toArray, List.set_cons_succ, List.set_cons_zero] | skip
      apply L.rd (i := 14) rfl (by kernel_rfl) hC rfl
      · intro W hW
        skip
        unfold readW
        go_simp
        first | rfl | exact ⟨rfl, rfl⟩
      first | simp only [Act.put, List.setIfInBounds_toArray, List.set_cons_succ, List.set_cons_zero] | skip
      refine L.done (by kernel_rfl) ?_
      replace hgx := hgx.below hC hgx.lt
      replace hox := hox.below hC hox.lt
      replace hw1 := hw1.trans (hC.mono hw1.size)
      clear hC hbx HH
      rename World => wq
      have g1 : wq.cell? ⟨w.heap.size, 0, none⟩ = some (.slice A g.length cp) := hgx.cell 0
      go_wp2
      go_loopw [13, 15, 91] (fun v _ i wr => ∃ j : Nat, j ≤ g.length ∧ i = .int .i64 j ∧ v = .bool ((g.take j).any fun r => notE r.2) ∧ Below wq.heap.size wq wr) (fun _ _ i _ => g.length - (intOf i).toNat)
      case atStart => exact ⟨0, by omega, rfl, rfl, Below.refl _ _⟩
      case round =>
        obtain ⟨j, hj, rfl, rfl, hqr⟩ := hrel
        have hbw := hw1.trans (hqr.mono hw1.size)
        have hzw := hbw.size
        have hzq := hqr.size
        by_cases hjn : j < g.length
        · obtain ⟨ad, nm, k', a', b', c', d', t', ks', A', cp', rfl, hab, hej, -, hE, hS⟩ := HG.out.rule hjn
          have hcc : Eight wr (ad.add (j * 8)) nm k' a' b' c' d' t' A' ks'.length cp' :=
            have hk := fun (q : Addr) (hq : q.block = (ad.add (j * 8)).block) => hbw.cell (p := q) (by rw [hq, add_block]; omega)
            ⟨(hk _ rfl).trans hS.c0, (hk ⟨_, _, none⟩ rfl).trans hS.c1, (hk ⟨_, _, none⟩ rfl).trans hS.c2, (hk ⟨_, _, none⟩ rfl).trans hS.c3, (hk ⟨_, _, none⟩ rfl).trans hS.c4, (hk ⟨_, _, none⟩ rfl).trans hS.c5, (hk ⟨_, _, none⟩ rfl).trans hS.c6, (hk ⟨_, _, none⟩ rfl).trans hS.c7⟩
          obtain ⟨y0, y1, y2, y3, y4, y5, y6, y7⟩ := hcc
          have had1 : ad.block < wr.heap.size := by omega
          have hjl : (j : Int) < (g.length : Int) := by omega
          have hR := HRT.out _ (List.mem_of_getElem? hej)
          have h60n := HSZ.out j _ hej
          simp only at h60n
          have hsn : (g.take (j + 1)).any (fun r => notE r.2) = ((g.take j).any (fun r => notE r.2) || notE (.mk k' a' b' c' d' t' ks')) := by
            rw [take_succ_of hej, List.any_append]
            simp
          have HSN := Lib.hid hsn
          have hnd := fun W (hW : Below w.heap.size w W) => nodes_any hR (hE.grow hW)
          have HND := Lib.hid hnd
          clear hnd hsn hR hS hE hej
          generalize hb : (g.take j).any (fun r => notE r.2) = b
          rw [hb] at HSN
          clear hb
          cases b
          · go_wp2_with fail
            refine (HND.out _ (by repeat (first | exact Below.refl _ _ | assumption | refine Below.drew ?_ | refine below_drewN ?_ _ | refine Below.alloc ?_ (by first | omega | (simp; omega) | simp) _ | refine Below.setCell ?_ (by first | omega | (simp; omega) | simp) _))).mono ?_
            rintro e w9 ⟨hb9, V9, c9, l9, rfl, hl9, hok9, hown9⟩
            have hq9 : Below wq.heap.size wq w9 := Below.trans (by repeat (first | exact Below.refl _ _ | assumption | refine Below.drew ?_ | refine below_drewN ?_ _ | refine Below.alloc ?_ (by first | omega | (simp; omega) | simp) _ | refine Below.setCell ?_ (by first | omega | (simp; omega) | simp) _)) (hb9.mono (by first | omega | (simp; omega) | simp))
            have h60 : l9.length ≤ 60 := by
              have h1 := congrArg List.length hl9
              rw [List.length_map, preD_len] at h1
              have h2 := h60n
              omega
            have hcn := containsN_any hok9 hown9 h60
            have hany : (l9.any fun x => kindN x.1 == 11) = notE (.mk k' a' b' c' d' t' ks') := by
              unfold notE
              rw [← hl9, List.any_map]
              rfl
            rw [hany] at hcn
            have HCN := Lib.hid hcn
            clear hcn hany hl9 hok9 hown9 hb9
            go_wp2_with fail
            refine HCN.out.mono ?_
            rintro e w10 ⟨rfl, hb10⟩
            have hq10 := hq9.trans (hb10.mono hq9.size)
            clear hb10
            go_wp2
            go_roundw
            case rel => exact ⟨j + 1, by omega, by go_num, by rw [HSN.out, Bool.false_or], hq10⟩
            case measure => simp [intOf]; omega
          · go_wp2
            go_roundw
            case rel => exact ⟨j + 1, by omega, by go_num, by rw [HSN.out, Bool.true_or], (by repeat (first | exact Below.refl _ _ | assumption | refine Below.drew ?_ | refine below_drewN ?_ _ | refine Below.alloc ?_ (by first | omega | (simp; omega) | simp) _ | refine Below.setCell ?_ (by first | omega | (simp; omega) | simp) _))⟩
            case measure => simp [intOf]; omega
        · obtain rfl : j = g.length := by omega
          have ho := hox.below hqr hox.lt
          have o0 : wr.cell? ⟨xo, 0, none⟩ = some (.bool o1.isSome) := ho.cell 0
          have hol := ho.lt
          rw [List.take_length]
          generalize g.any (fun r => notE r.2) = b at HEND ⊢
          generalize o1.isSome = b2 at HEND o0 ⊢
          cases b2
          · cases b
            · (go_wp2; go_ret; exact ⟨rfl, hbw⟩)
            · go_wp2
              go_ret
              exact ⟨rfl, (by repeat (first | exact Below.refl _ _ | assumption | refine Below.drew ?_ | refine below_drewN ?_ _ | refine Below.alloc ?_ (by first | omega | (simp; omega) | simp) _ | refine Below.setCell ?_ (by first | omega | (simp; omega) | simp) _))⟩
          · go_wp2
            go_ret
            exact ⟨rfl, (by repeat (first | exact Below.refl _ _ | assumption | refine Below.drew ?_ | refine below_drewN ?_ _ | refine Below.alloc ?_ (by first | omega | (simp; omega) | simp) _ | refine Below.setCell ?_ (by first | omega | (simp; omega) | simp) _))⟩
    · have hlti : ((q : Int) < (s.size : Int)) = False := by simp; omega
      refine wp_region_l (fun _ => True) (fun _ => false) (by kernel_rfl) ?_
      have hC : True := trivial
      apply L.rd (i := 0) rfl (by kernel_rfl) hC rfl
      · intro W hW
        skip
        unfold readW
        go_simp
        first | rfl | exact ⟨rfl, rfl⟩
      first | simp only [Act.put, List.setIfInBounds_toArray, List.set_cons_succ, List.set_cons_zero] | skip
      apply L.rd (i := 1) rfl (by kernel_rfl) hC rfl
      · intro W hW
        skip
        unfold readW
        go_simp
        first | rfl | exact ⟨rfl, rfl⟩
      first | simp only [Act.put, List.setIfInBounds_toArray, List.set_cons_succ, List.set_cons_zero] | skip
      apply L.rd (i := 2) rfl (by kernel_rfl) hC rfl
      · intro W hW
        skip
        unfold readW
        go_simp
        first | rfl | exact ⟨rfl, rfl⟩
      first | simp only [Act.put, List.setIfInBounds_toArray, List.set_cons_succ, List.set_cons_zero] | skip
      apply L.rdg (i := 3) rfl (by kernel_rfl) hC (by kernel_rfl)
      · intro W hW
        skip
        unfold readW
        go_simp
        first | rfl | exact ⟨rfl, rfl⟩
      first | simp only [Act.put, List.setIfInBounds_toArray, List.set_cons_succ, List.set_cons_zero] | skip
      apply L.rdg (i := 4) rfl (by kernel_rfl) hC (by kernel_rfl)
      · intro W hW
        skip
        unfold readW
        go_simp
        first | rfl | exact ⟨rfl, rfl⟩
      first | simp only [Act.put, List.setIfInBounds_toArray, List.set_cons_succ, List.set_cons_zero] | skip
      apply L.rdg (i := 5) rfl (by kernel_rfl) hC (by kernel_rfl)
      · intro W hW
        skip
        unfold readW
        go_simp
        first | rfl | exact ⟨rfl, rfl⟩
      first | simp only [Act.put, List.setIfInBounds_toArray, List.set_cons_succ, List.set_cons_zero] | skip
      apply L.rdg (i := 6) rfl (by kernel_rfl) hC (by kernel_rfl)
      · intro W hW
        skip
        unfold readW
        go_simp
        first | rfl | exact ⟨rfl, rfl⟩
      first | simp only [Act.put, List.setIfInBounds_toArray, List.set_cons_succ, List.set_cons_zero] | skip
      apply L.rd (i := 7) rfl (by kernel_rfl) hC rfl
      · intro W hW
        skip
        unfold readW
        go_simp
        first | rfl | exact ⟨rfl, rfl⟩
      first | simp only [Act.put, List.setIfInBounds_toArray, List.set_cons_succ, List.set_cons_zero] | skip
      apply L.rd (i := 8) rfl (by kernel_rfl) hC rfl
      · intro W hW
        skip
        unfold readW
        go_simp
        first | rfl | exact ⟨rfl, rfl⟩
      first | simp only [Act.put, List.setIfInBounds_toArray, List.set_cons_succ, List.set_cons_zero] | skip
      apply L.skip (i := 9) rfl (by kernel_rfl) hC (by kernel_rfl)
      first | simp only [Act.put, List.setIfInBounds_toArray, List.set_cons_succ, List.set_cons_zero] | skip
      apply L.skip (i := 10) rfl (by kernel_rfl) hC (by kernel_rfl)
      first | simp only [Act.put, List.setIfInBounds_toArray, List.set_cons_succ, List.set_cons_zero] | skip
      apply L.skip (i := 11) rfl (by kernel_rfl) hC (by kernel_rfl)
      first | simp only [Act.put, List.setIfInBounds_toArray, List.set_cons_succ, List.set_cons_zero] | skip
      apply L.skip (i := 12) rfl (by kernel_rfl) hC (by kernel_rfl)
      first | simp only [Act.put, List.setIfInBounds_toArray, List.set_cons_succ, List.set_cons_zero] | skip
      apply L.skip (i := 13) rfl (by kernel_rfl) hC (by kernel_rfl)
      first | simp only [Act.put, List.setIfInBounds_toArray, List.set_cons_succ, List.set_cons_zero] | skip
      apply L.rd (i := 14) rfl (by kernel_rfl) hC rfl
      · intro W hW
        skip
        unfold readW
        go_simp
        first | rfl | exact ⟨rfl, rfl⟩
      first | simp only [Act.put, List.setIfInBounds_toArray, List.set_cons_succ, List.set_cons_zero] | skip
      refine L.done (by kernel_rfl) ?_
      replace hgx := hgx.drew
      replace hox := hox.drew
      replace hw1 := hw1.drew
      clear hbx hsame hz0 hC hnot
      generalize w8.drew = wq at hgx hox hw1 ⊢
      have g1 : wq.cell? ⟨w.heap.size, 0, none⟩ = some (.slice A g.length cp) := hgx.cell 0
      go_wp2
      go_loopw [13, 15, 91] (fun v _ i wr => ∃ j : Nat, j ≤ g.length ∧ i = .int .i64 j ∧ v = .bool ((g.take j).any fun r => notE r.2) ∧ Below wq.heap.size wq wr) (fun _ _ i _ => g.length - (intOf i).toNat)
      case atStart => exact ⟨0, by omega, rfl, rfl, Below.refl _ _⟩
      case round =>
        obtain ⟨j, hj, rfl, rfl, hqr⟩ := hrel
        have hbw := hw1.trans (hqr.mono hw1.size)
        have hzw := hbw.size
        have hzq := hqr.size
        by_cases hjn : j < g.length
        · obtain ⟨ad, nm, k', a', b', c', d', t', ks', A', cp', rfl, hab, hej, -, hE, hS⟩ := HG.out.rule hjn
          have hcc : Eight wr (ad.add (j * 8)) nm k' a' b' c' d' t' A' ks'.length cp' :=
            have hk := fun (q : Addr) (hq : q.block = (ad.add (j * 8)).block) => hbw.cell (p := q) (by rw [hq, add_block]; omega)
            ⟨(hk _ rfl).trans hS.c0, (hk ⟨_, _, none⟩ rfl).trans hS.c1, (hk ⟨_, _, none⟩ rfl).trans hS.c2, (hk ⟨_, _, none⟩ rfl).trans hS.c3, (hk ⟨_, _, none⟩ rfl).trans hS.c4, (hk ⟨_, _, none⟩ rfl).trans hS.c5, (hk ⟨_, _, none⟩ rfl).trans hS.c6, (hk ⟨_, _, none⟩ rfl).trans hS.c7⟩
          obtain ⟨y0, y1, y2, y3, y4, y5, y6, y7⟩ := hcc
          have had1 : ad.block < wr.heap.size := by omega
          have hjl : (j : Int) < (g.length : Int) := by omega
          have hR := HRT.out _ (List.mem_of_getElem? hej)
          have h60n := HSZ.out j _ hej
          simp only at h60n
          have hsn : (g.take (j + 1)).any (fun r => notE r.2) = ((g.take j).any (fun r => notE r.2) || notE (.mk k' a' b' c' d' t' ks')) := by
            rw [take_succ_of hej, List.any_append]
            simp
          have HSN := Lib.hid hsn
          have hnd := fun W (hW : Below w.heap.size w W) => nodes_any hR (hE.grow hW)
          have HND := Lib.hid hnd
          clear hnd hsn hR hS hE hej
          generalize hb : (g.take j).any (fun r => notE r.2) = b
          rw [hb] at HSN
          clear hb
          cases b
          · go_wp2_with fail
            refine (HND.out _ (by repeat (first | exact Below.refl _ _ | assumption | refine Below.drew ?_ | refine below_drewN ?_ _ | refine Below.alloc ?_ (by first | omega | (simp; omega) | simp) _ | refine Below.setCell ?_ (by first | omega | (simp; omega) | simp) _))).mono ?_
            rintro e w9 ⟨hb9, V9, c9, l9, rfl, hl9, hok9, hown9⟩
            have hq9 : Below wq.heap.size wq w9 := Below.trans (by repeat (first | exact Below.refl _ _ | assumption | refine Below.drew ?_ | refine below_drewN ?_ _ | refine Below.alloc ?_ (by first | omega | (simp; omega) | simp) _ | refine Below.setCell ?_ (by first | omega | (simp; omega) | simp) _)) (hb9.mono (by first | omega | (simp; omega) | simp))
            have h60 : l9.length ≤ 60 := by
              have h1 := congrArg List.length hl9
              rw [List.length_map, preD_len] at h1
              have h2 := h60n
              omega
            have hcn := containsN_any hok9 hown9 h60
            have hany : (l9.any fun x => kindN x.1 == 11) = notE (.mk k' a' b' c' d' t' ks') := by
              unfold notE
              rw [← hl9, List.any_map]
              rfl
            rw [hany] at hcn
            have HCN := Lib.hid hcn
            clear hcn hany hl9 hok9 hown9 hb9
            go_wp2_with fail
            refine HCN.out.mono ?_
            rintro e w10 ⟨rfl, hb10⟩
            have hq10 := hq9.trans (hb10.mono hq9.size)
            clear hb10
            go_wp2
            go_roundw
            case rel => exact ⟨j + 1, by omega, by go_num, by rw [HSN.out, Bool.false_or], hq10⟩
            case measure => simp [intOf]; omega
          · go_wp2
            go_roundw
            case rel => exact ⟨j + 1, by omega, by go_num, by rw [HSN.out, Bool.true_or], (by repeat (first | exact Below.refl _ _ | assumption | refine Below.drew ?_ | refine below_drewN ?_ _ | refine Below.alloc ?_ (by first | omega | (simp; omega) | simp) _ | refine Below.setCell ?_ (by first | omega | (simp; omega) | simp) _))⟩
            case measure => simp [intOf]; omega
        · obtain rfl : j = g.length := by omega
          have ho := hox.below hqr hox.lt
          have o0 : wr.cell? ⟨xo, 0, none⟩ = some (.bool o1.isSome) := ho.cell 0
          have hol := ho.lt
          rw [List.take_length]
          generalize g.any (fun r => notE r.2) = b at HEND ⊢
          generalize o1.isSome = b2 at HEND o0 ⊢
          cases b2
          · cases b
            · (go_wp2; go_ret; exact ⟨rfl, hbw⟩)
            · go_wp2
              go_ret
              exact ⟨rfl, (by repeat (first | exact Below.refl _ _ | assumption | refine Below.drew ?_ | refine below_drewN ?_ _ | refine Below.alloc ?_ (by first | omega | (simp; omega) | simp) _ | refine Below.setCell ?_ (by first | omega | (simp; omega) | simp) _))⟩
          · go_wp2
            go_ret
            exact ⟨rfl, (by repeat (first | exact Below.refl _ _ | assumption | refine Below.drew ?_ | refine below_drewN ?_ _ | refine Below.alloc ?_ (by first | omega | (simp; omega) | simp) _ | refine Below.setCell ?_ (by first | omega | (simp; omega) | simp) _))⟩
end Go.Proofs.Ytlamphneimpdlaa
