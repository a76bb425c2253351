/- The walk of the law SimpTwice. -/
import Derived.Test.YtefechceoeeonaaSwG
import Derived.Test.YtefechceoeeonaaSwT
import Derived.Test.YtefechceoeeonaaSmB
namespace Go.Proofs.Ytefechceoeeonaa
open Go.RowKit

def stG : List Rl := [(nameA, ofN 5 [litE ⟨#[120]⟩, .mk 1 0 0 0 0 ⟨#[]⟩ []])]
def slG : List Rl := [(nameA, litE ⟨#[120]⟩)]
theorem st_well : (wellG stG).2 = 0 := by decide +kernel
theorem st_simp : simpG stG = slG := by kernel_rfl

set_option maxRecDepth 100000 in
set_option maxHeartbeats 8000000 in
theorem walk_SimpTwice {g : List Rl} {A : Option Addr} {cp : Nat} {row : Nat → List Value} (w : World) (hg : GrIs w w.heap.size g A cp row) :
    Calls Try.prog 4 #[.agg #[.slice A g.length cp]] w fun e w' => e = .returned (.bool true) ∧ Below w.heap.size w w' := by
  have hlit := lit_b ⟨#[120]⟩
  have hof := of_b
  have hone1 := fun (W : World) (b : Nat) (hb : Blk W b 38 (exCells 3 0 0 0 0 ⟨#[120]⟩ none 0 0 ++ exCells 1 0 0 0 0 ⟨#[]⟩ none 0 0).toArray) =>
    one_b (ofN 5 [litE ⟨#[120]⟩, .mk 1 0 0 0 0 ⟨#[]⟩ []]) _ W (ex_two (litE_is W _ (by decide)) (emptyE_is W) hb (by simp) 5)
  have hone := fun W => one_b (litE ⟨#[120]⟩) _ W (litE_is W ⟨#[120]⟩ (by decide))
  have hk := fun W (hW : Below w.heap.size w W) => simp_any (hg.grow hW)
  have hwl := fun W (hW : Below w.heap.size w W) => well_any (hg.grow hW)
  unfold WellQ at hwl
  have hgcap := hg.cap
  unfold maxLen at hgcap
  unfold exCells at hlit hof hone1 hone
  simp only [List.cons_append, List.nil_append] at hone1
  have HL := Lib.hid hlit
  have HF := Lib.hid hof
  have HO1 := Lib.hid hone1
  have HO := Lib.hid hone
  have HK := Lib.hid hk
  have HWL := Lib.hid hwl
  clear hlit hof hone1 hone hk hwl hg
  go_enter Try.func4, Try.ntmps4
  go_wp2_with fail
  refine (HL.out _).mono ?_
  rintro e w1 ⟨rfl, hb1⟩
  have hgx : Blk w1 w.heap.size 24 #[.slice A g.length cp] := (blk_at rfl).below hb1 (by first | omega | (simp; omega) | simp)
  have hw1 : Below w.heap.size w w1 := ((Below.refl _ w).alloc (Nat.le_refl _) _).trans (hb1.mono (by first | omega | (simp; omega) | simp))
  have hz1 := hw1.size
  have hl1 := hgx.lt
  clear hb1
  go_wp2_with fail
  refine (HF.out _ _ _ _ _).mono ?_
  rintro e w2 ⟨rfl, hb2⟩
  have hkb := (blk_at (w := w1) (t := 38) (cs := #[.int .i64 3, .int .u64 0, .int .u64 0, .int .u64 0, .int .u64 0, .string ⟨#[120]⟩, .slice none 0 0, .int .i64 1, .int .u64 0, .int .u64 0, .int .u64 0, .int .u64 0, .string ⟨#[]⟩, .slice none 0 0]) rfl).below hb2 (by simp)
  replace hgx := (hgx.alloc _).below hb2 (by simp; omega)
  replace hw1 := (hw1.alloc hz1 _).trans (hb2.mono (by simp; omega))
  clear hb2 hz1 hl1
  go_wp2_with fail
  refine (HO1.out _ _ hkb).mono ?_
  rintro e w3 ⟨b1, rfl, hG1, hb3⟩
  replace hgx := hgx.below hb3 hgx.lt
  replace hw1 := hw1.trans (hb3.mono hw1.size)
  clear hb3 hkb
  have hk1 := simp_any hG1
  have HK1 := Lib.hid hk1
  clear hk1 hG1
  go_wp2_with fail
  refine HK1.out.mono ?_
  rintro e w4 ⟨hb4, hq⟩
  replace hgx := hgx.below hb4 hgx.lt
  replace hw1 := hw1.trans (hb4.mono hw1.size)
  clear hb4 HK1
  rcases hq with ⟨hbad, _⟩ | ⟨_, V, c, rows, rfl, hF⟩
  · exact absurd st_well hbad
  rw [show simpG [(nameA, ofN 5 [litE ⟨#[120]⟩, .mk 1 0 0 0 0 ⟨#[]⟩ []])] = slG from st_simp] at hF
  have hG2 := hF.is
  clear hF
  have hz3 := hw1.size
  have hl3 := hgx.lt
  go_upto_region 2 with fail
  have hbx : Blk (w4.alloc (.cells #[.slice V 1 c] 24)) w4.heap.size 24 #[.slice V 1 c] := blk_at rfl
  replace hgx := hgx.alloc (.cells #[.slice V 1 c] 24)
  replace hw1 := hw1.alloc hz3 (.cells #[.slice V 1 c] 24)
  replace hG2 := hG2.grow ((Below.refl _ w4).alloc (Nat.le_refl _) (.cells #[.slice V 1 c] 24))
  generalize (w4.alloc (.cells #[.slice V 1 c] 24)) = w5 at hbx hgx hw1 hG2 ⊢
  generalize w4.heap.size = xb at hbx ⊢
  clear hz3 hl3
  refine wp_region_l (Below w5.heap.size w5) (fun _ => false) (by kernel_rfl) ?_
  have hC : Below w5.heap.size w5 w5.drew := (Below.refl _ _).drew
  generalize w5.drew = wd at hC ⊢
  have HG2 := Lib.hid hG2
  clear hG2
  apply L.rd (i := 0) rfl (by kernel_rfl) hC rfl
  · intro W hW
    skip
    unfold readW
    go_simp
    first | rfl | exact ⟨rfl, rfl⟩
  first | simp only [Act.put, List.setIfInBounds_toArray, List.set_cons_succ, List.set_cons_zero] | skip
  apply L.rd (i := 1) rfl (by kernel_rfl) hC rfl
  · intro W hW
    skip
    unfold readW
    go_simp
    first | rfl | exact ⟨rfl, rfl⟩
  first | simp only [Act.put, List.setIfInBounds_toArray, List.set_cons_succ, List.set_cons_zero] | skip
  apply L.rd (i := 2) rfl (by kernel_rfl) hC rfl
  · intro W hW
    skip
    unfold readW
    go_simp
    first | rfl | exact ⟨rfl, rfl⟩
  first | simp only [Act.put, List.setIfInBounds_toArray, List.set_cons_succ, List.set_cons_zero] | skip
  apply L.rdg (i := 3) rfl (by kernel_rfl) hC (by kernel_rfl)
  · intro W hW
    have n0 := (hbx.below hW hbx.lt).cell 0
    unfold readW
    go_simp
    first | rfl | exact ⟨rfl, rfl⟩
  first | simp only [Act.put, List.setIfInBounds_toArray, List.set_cons_succ, List.set_cons_zero] | skip
  apply L.oneg (i := 4) rfl (by kernel_rfl) (by kernel_rfl)
  unfold stepT
  go_simp
  go_at_call 18
  refine (HL.out _).mono ?_
  rintro e wn ⟨rfl, hbn⟩
  replace hC := hC.trans (hbn.mono hC.size)
  clear hbn
  refine ⟨_, rfl, hC, ?_⟩
  first | simp only [Act.put, List.setIfInBounds_toArray, List.set_cons_succ, List.set_cons_zero] | skip
  apply L.oneg (i := 5) rfl (by kernel_rfl) (by kernel_rfl)
  unfold stepT
  go_simp
  go_at_call 17
  refine (HO.out _).mono ?_
  rintro e wn ⟨b2, rfl, hG3, hbn⟩
  replace hC := hC.trans (hbn.mono hC.size)
  clear hbn
  refine ⟨_, rfl, hC, ?_⟩
  first | simp only [Act.put, List.setIfInBounds_toArray, List.set_cons_succ, List.set_cons_zero] | skip
  have hsm := sameg_any (HG2.out.grow hC) hG3
  rw [show isB (slG = [(nameA, litE ⟨#[120]⟩)]) = true from isB_yes rfl] at hsm
  have HSM := Lib.hid hsm
  clear hsm hG3
  apply L.oneg (i := 6) rfl (by kernel_rfl) (by kernel_rfl)
  unfold stepT
  go_simp
  go_at_call 13
  refine HSM.out.mono ?_
  rintro e wn ⟨rfl, hbn⟩
  replace hC := hC.trans (hbn.mono hC.size)
  clear hbn
  refine ⟨_, rfl, hC, ?_⟩
  first | simp only [Act.put, List.setIfInBounds_toArray, List.set_cons_succ, List.set_cons_zero] | skip
  apply L.rdg (i := 7) rfl (by kernel_rfl) hC (by kernel_rfl)
  · intro W hW
    skip
    unfold readW
    go_simp
    first | rfl | exact ⟨rfl, rfl⟩
  first | simp only [Act.put, List.setIfInBounds_toArray, List.set_cons_succ, List.set_cons_zero] | skip
  apply L.rd (i := 8) rfl (by kernel_rfl) hC rfl
  · intro W hW
    skip
    unfold readW
    go_simp
    first | rfl | exact ⟨rfl, rfl⟩
  first | simp only [Act.put, List.setIfInBounds_toArray, List.set_cons_succ, List.set_cons_zero] | skip
  refine L.done (by kernel_rfl) ?_
  replace hgx := hgx.below hC hgx.lt
  replace hw1 := hw1.trans (hC.mono hw1.size)
  clear hC hbx HG2 HSM HL HO1 HO HF
  have g0 : wn.cell? ⟨w.heap.size, 0, none⟩ = some (.slice A g.length cp) := hgx.cell 0
  go_wp2_with fail
  refine (HK.out _ hw1).mono ?_
  rintro e w6 ⟨hb6, hq⟩
  replace hw1 := hw1.trans (hb6.mono hw1.size)
  replace hgx := hgx.below hb6 hgx.lt
  clear hb6 g0 HK
  have hz6 := hw1.size
  have hgl6 := hgx.lt
  rcases hq with ⟨hbad, rfl⟩ | ⟨hk0, V', c', rows', rfl, hF⟩
  · have hxb : ((wellG g).2 != 0) = true := by rw [bne_iff_ne]; exact hbad
    generalize (wellG g).2 = x at hxb HWL
    generalize (wellG g).1 = y at HWL
    clear hbad
    have g1 : (w6.alloc (.cells #[.slice none 0 0] 24)).cell? ⟨w.heap.size, 0, none⟩ = some (.slice A g.length cp) := (hgx.alloc _).cell 0
    have hw7 := hw1.alloc hz6 (.cells #[.slice none 0 0] 24)
    clear hgx
    go_wp2_with fail
    refine (HWL.out _ hw7).mono ?_
    rintro e w8 ⟨rfl, hb8⟩
    have hw8 := hw7.trans (hb8.mono hw7.size)
    have hxx : (x == x) = true := by simp
    go_wp2
    go_ret
    exact ⟨ret_bool (by first | exact hxx | simp), hw8⟩
  have W0 := well_of hk0
  obtain ⟨hE, hE2⟩ := simp_end W0
  have hpl := simp_plain W0
  have htw := simp_twice W0
  have hlen := hE.len
  have hwh : (wellG (simpG g)).2 = 0 := by rw [well_yes hE.well]
  have hck : ∀ r ∈ simpG g, checkE r.2 = 0 := hE.well.right.body
  have hten := hE.well.right.ten
  have hH := hF.is
  clear hF hk0 W0 hE hE2
  generalize simpG g = h at *
  replace hw1 := hw1.alloc hz6 (.cells #[.slice V' g.length c'] 24)
  replace hH := hH.grow ((Below.refl _ w6).alloc (Nat.le_refl _) (.cells #[.slice V' g.length c'] 24))
  have hhx : Blk (w6.alloc (.cells #[.slice V' g.length c'] 24)) w6.heap.size 24 #[.slice V' g.length c'] := blk_at rfl
  have HPL := Lib.hid hpl
  have HCK := Lib.hid hck
  have HH := Lib.hid hH
  have HTW := Lib.hid htw
  have HWH := Lib.hid hwh
  clear hpl hck hH htw hwh HWL hgx hgl6
  go_upto_region 8 with fail
  generalize (w6.alloc (.cells #[.slice V' g.length c'] 24)) = w7 at hw1 hhx HH ⊢
  generalize w6.heap.size = hb at hhx ⊢
  clear hz6
  have h0 : w7.cell? ⟨hb, 0, none⟩ = some (.slice V' g.length c') := hhx.cell 0
  go_wp2
  go_loopw [48] (fun i wr => ∃ j : Nat, j ≤ g.length ∧ i = .int .i64 j ∧ Below w7.heap.size w7 wr) (fun i _ => g.length - (intOf i).toNat)
  case atStart => exact ⟨0, by omega, rfl, Below.refl _ _⟩
  case round =>
    obtain ⟨j, hj, rfl, h7r⟩ := hrel
    have hzr := h7r.size
    by_cases hjn : j < g.length
    · obtain ⟨ad, nm, k', a', b', c1, d', t', ks', A', cp', rfl, hab, hej, -, hE, hS⟩ := HH.out.rule (j := j) (by omega)
      have hcc : Eight wr (ad.add (j * 8)) nm k' a' b' c1 d' t' A' ks'.length cp' :=
        have hk := fun (q : Addr) (hq : q.block = (ad.add (j * 8)).block) => h7r.cell (p := q) (by rw [hq, add_block]; omega)
        ⟨(hk _ rfl).trans hS.c0, (hk ⟨_, _, none⟩ rfl).trans hS.c1, (hk ⟨_, _, none⟩ rfl).trans hS.c2, (hk ⟨_, _, none⟩ rfl).trans hS.c3, (hk ⟨_, _, none⟩ rfl).trans hS.c4, (hk ⟨_, _, none⟩ rfl).trans hS.c5, (hk ⟨_, _, none⟩ rfl).trans hS.c6, (hk ⟨_, _, none⟩ rfl).trans hS.c7⟩
      obtain ⟨y0, y1, y2, y3, y4, y5, y6, y7⟩ := hcc
      have had1 : ad.block < wr.heap.size := by omega
      have hjl : (j : Int) < (g.length : Int) := by omega
      have hpl := HPL.out _ (List.mem_of_getElem? hej)
      have hck := HCK.out _ (List.mem_of_getElem? hej)
      have hcall : ∀ W : World, Below w7.heap.size w7 W → Calls Try.prog 22 #[.agg #[.int .i64 k', .int .u64 a', .int .u64 b', .int .u64 c1, .int .u64 d', .string t', .slice A' ks'.length cp']] W fun r w' => r = .returned (.bool true) ∧ Below W.heap.size W w' := fun W hW => plain_any _ hpl _ W (hE.grow hW)
      have hchk : ∀ W : World, Below w7.heap.size w7 W → Calls Try.prog 23 #[.agg #[.int .i64 k', .int .u64 a', .int .u64 b', .int .u64 c1, .int .u64 d', .string t', .slice A' ks'.length cp']] W fun r w' => r = .returned (.int .i64 0) ∧ Below W.heap.size W w' := fun W hW => by
        have := check_expr _ _ W (hE.grow hW)
        rw [hck] at this
        exact this
      have HC := Lib.hid hcall
      have HCH := Lib.hid hchk
      have hrb : Blk (wr.alloc (.cells #[.string nm, .int .i64 k', .int .u64 a', .int .u64 b', .int .u64 c1, .int .u64 d', .string t', .slice A' ks'.length cp'] 44)) wr.heap.size 44 #[.string nm, .int .i64 k', .int .u64 a', .int .u64 b', .int .u64 c1, .int .u64 d', .string t', .slice A' ks'.length cp'] := blk_at rfl
      have hw8 := h7r.alloc hzr (.cells #[.string nm, .int .i64 k', .int .u64 a', .int .u64 b', .int .u64 c1, .int .u64 d', .string t', .slice A' ks'.length cp'] 44)
      clear hcall hchk hck hpl hE hS hej
      go_wp2_with fail
      refine (HC.out _ hw8).mono ?_
      rintro e w8 ⟨rfl, hb8⟩
      have hrb8 := hrb.below hb8 hrb.lt
      have hw9 := hw8.trans (hb8.mono hw8.size)
      have z0 : w8.cell? ⟨wr.heap.size, 0, none⟩ = some (.string nm) := hrb8.cell 0; have z1 : w8.cell? ⟨wr.heap.size, 1, none⟩ = some (.int .i64 k') := hrb8.cell 1; have z2 : w8.cell? ⟨wr.heap.size, 2, none⟩ = some (.int .u64 a') := hrb8.cell 2; have z3 : w8.cell? ⟨wr.heap.size, 3, none⟩ = some (.int .u64 b') := hrb8.cell 3; have z4 : w8.cell? ⟨wr.heap.size, 4, none⟩ = some (.int .u64 c1) := hrb8.cell 4; have z5 : w8.cell? ⟨wr.heap.size, 5, none⟩ = some (.int .u64 d') := hrb8.cell 5; have z6 : w8.cell? ⟨wr.heap.size, 6, none⟩ = some (.string t') := hrb8.cell 6; have z7 : w8.cell? ⟨wr.heap.size, 7, none⟩ = some (.slice A' ks'.length cp') := hrb8.cell 7
      clear hb8 hrb hw8
      go_wp2_with fail
      refine (HCH.out _ hw9).mono ?_
      rintro e w9 ⟨rfl, hb9⟩
      have hw10 := hw9.trans (hb9.mono hw9.size)
      clear hb9 z0 z1 z2 z3 z4 z5 z6 z7 hrb8 hw9
      go_wp2
      go_roundw
      case rel => exact ⟨j + 1, by omega, by go_num, hw10⟩
      case measure => simp [intOf]; omega
    · obtain rfl : j = g.length := by omega
      have hhr := hhx.below h7r hhx.lt
      have h1 : wr.cell? ⟨hb, 0, none⟩ = some (.slice V' g.length c') := hhr.cell 0
      have hwr := hw1.trans (h7r.mono hw1.size)
      have hk8 := simp_any (HH.out.grow h7r)
      rw [hlen] at hk8
      have HK8 := Lib.hid hk8
      clear hk8 h0
      go_wp2_with fail
      refine HK8.out.mono ?_
      rintro e w9 ⟨hb9, hq⟩
      have hw9 := hwr.trans (hb9.mono hwr.size)
      have hh9 := hhr.below hb9 hhr.lt
      have h79 := h7r.trans (hb9.mono h7r.size)
      have hz9 := hw9.size
      have hl9 := hh9.lt
      rcases hq with ⟨hbad, _⟩ | ⟨_, V2, c2, rows2, rfl, hF2⟩
      · exact absurd HWH.out hbad
      rw [HTW.out] at hF2
      rw [hlen]
      have hG9 := hF2.is
      have hsm := sameg_any (w := w9.alloc (.cells #[.slice V2 g.length c2] 24)) (HH.out.grow (h79.alloc h79.size _)) (hG9.grow ((Below.refl _ w9).alloc (Nat.le_refl _) _))
      rw [isB_yes rfl, hlen] at hsm
      have HSM := Lib.hid hsm
      have h3 : (w9.alloc (.cells #[.slice V2 g.length c2] 24)).cell? ⟨hb, 0, none⟩ = some (.slice V' g.length c') := (hh9.alloc _).cell 0
      clear hsm hG9 hF2 hb9 HK8
      go_wp2_with fail
      refine HSM.out.mono ?_
      rintro e w10 ⟨rfl, hb10⟩
      have hw10 : Below w.heap.size w w10 := (hw9.alloc hz9 _).trans (hb10.mono (by first | omega | (simp; omega) | simp))
      go_wp2
      go_ret
      exact ⟨rfl, hw10⟩
end Go.Proofs.Ytefechceoeeonaa
