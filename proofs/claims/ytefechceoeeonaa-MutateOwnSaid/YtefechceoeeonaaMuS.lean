/- mutate.turns: a set and all others (ESet). -/
import Derived.Test.YtefechceoeeonaaMuU
namespace Go.Proofs.Ytefechceoeeonaa
open Go.RowKit Go.Maps

set_option maxRecDepth 100000 in
set_option maxHeartbeats 8000000 in
theorem turns_set (B0 : Nat) (a b c d : Int) (t : ByteArray) (A : Option Addr) (n cp : Nat) (w : World) (hB : B0 ≤ w.heap.size) :
    Calls Try.prog 83 #[.agg #[.int .i64 2, .int .u64 a, .int .u64 b, .int .u64 c, .int .u64 d, .string t, .slice A n cp]] w (OutsQ B0 [.mk 2 (notU a) (notU b) (notU c) (notU d) ⟨#[]⟩ []] w) := by
  obtain ⟨i0, hi0, hz0, hz1, hz2⟩ := info_parts expr_info
  have hmf : ∀ (fn : Fn) (first cap : Array Value) (w : World), (Instr.makeFunc fn first cap).run Try.prog w = .ok (.func fn first cap) w := fun _ _ _ _ => rfl
  have hnt := fun W => not_any ⟨a, b, c, d⟩ W
  simp only [S4.val, S4.map2] at hnt
  generalize notU a = a2 at hnt ⊢
  generalize notU b = b2 at hnt ⊢
  generalize notU c = c2 at hnt ⊢
  generalize notU d = d2 at hnt ⊢
  have HNT := Lib.hid hnt
  have hx := ExIs.leaf w B0 2 a2 b2 c2 d2 ⟨#[]⟩ (by decide)
  unfold exCells at hx
  obtain ⟨xx, hxx⟩ : ∃ xx, Ex.mk 2 a2 b2 c2 d2 ⟨#[]⟩ [] = xx := ⟨_, rfl⟩
  rw [hxx] at hx ⊢
  have HX := Lib.hid hx
  obtain ⟨es, hes⟩ : ∃ es : List Ex, es = [] := ⟨_, rfl⟩
  have HQ : Hid (∀ V cv W, OutsQ B0 (es ++ [xx]) w (.returned (.slice V (es.length + 1) cv)) W → OutsQ B0 [xx] w (.returned (.slice V (es.length + 1) cv)) W) := fun V cv W h => by rw [hes] at h ⊢; exact h
  obtain ⟨m, hml⟩ : ∃ m, es.length = m := ⟨_, rfl⟩
  rw [hml] at HQ
  generalize OutsQ B0 [xx] w = Q at HQ ⊢
  clear hxx hx hnt
  go_enter Try.func83, Try.ntmps83
  go_upto_region 5 with fail
  have hob : Blk ((w.alloc (.cells #[.int .i64 2, .int .u64 a, .int .u64 b, .int .u64 c, .int .u64 d, .string t, .slice A n cp] 38)).alloc (.cells #[.slice none 0 0] 36)) (w.heap.size + 1) 36 #[.slice none 0 0] := blk_at (by simp)
  have hpb : Blk ((w.alloc (.cells #[.int .i64 2, .int .u64 a, .int .u64 b, .int .u64 c, .int .u64 d, .string t, .slice A n cp] 38)).alloc (.cells #[.slice none 0 0] 36)) w.heap.size 38 #[.int .i64 2, .int .u64 a, .int .u64 b, .int .u64 c, .int .u64 d, .string t, .slice A n cp] := (blk_at rfl).alloc _
  have hb0 : Below w.heap.size w ((w.alloc (.cells #[.int .i64 2, .int .u64 a, .int .u64 b, .int .u64 c, .int .u64 d, .string t, .slice A n cp] 38)).alloc (.cells #[.slice none 0 0] 36)) := (by repeat (first | exact Below.refl _ _ | assumption | refine Below.drew ?_ | refine below_drewN ?_ _ | refine Below.alloc ?_ (by first | omega | (simp; omega) | simp) _ | refine Below.setCell ?_ (by first | omega | (simp; omega) | simp) _))
  generalize ((w.alloc (.cells #[.int .i64 2, .int .u64 a, .int .u64 b, .int .u64 c, .int .u64 d, .string t, .slice A n cp] 38)).alloc (.cells #[.slice none 0 0] 36)) = W0 at hob hpb hb0 ⊢
  obtain ⟨V, cv, rows, T0⟩ : TuS B0 w #[.int .i64 2, .int .u64 a, .int .u64 b, .int .u64 c, .int .u64 d, .string t, .slice A n cp] es W0 := by
    rw [hes]
    exact ⟨none, 0, _, hB, hb0, hpb, hob, Outs.nil _ _ _⟩
  have hm : m ≤ 4000 := by rw [← hml, hes]; simp
  have hW0 := T0.ob.lt
  have hEX := (exF_of HX.out (hb0.mono hB)).mono (S' := fun b => b < W0.heap.size ∧ ¬ (B0 ≤ b ∧ b < w.heap.size + 2) ∧ some b ≠ (Value.slice V es.length cv).ownBlock) (fun b hb => T0.low hb) (hi' := W0.heap.size) (by have := hob.lt; omega)
  rw [hml] at hEX
  have HEX := Lib.hid hEX
  have hxl : (kdF rows es.length).length = es.length * 7 := T0.outs.own.1
  rw [hml] at hxl
  have HXL := Lib.hid hxl
  have hC := T0.c.drew
  have hD : Below W0.heap.size W0 W0.drew := (Below.refl _ _).drew
  have hO := own_below T0.outs.own hD
  rw [hml] at hC hO
  have HML := Lib.hid hml
  clear hob hpb hb0 hEX hxl hes hml
  refine wp_region_l (TuC w (.slice V m cv) #[.int .i64 2, .int .u64 a, .int .u64 b, .int .u64 c, .int .u64 d, .string t, .slice A n cp]) (fun i => i == 8 || i == 9 || i == 10) (by kernel_rfl) ?_
  generalize W0.drew = wd at hC hD hO ⊢
  apply L.rd (i := 0) rfl (by kernel_rfl) hC rfl
  · intro W hW
    have n0 := hW.ob.cell 0
    unfold readW
    go_simp
    first | rfl | exact ⟨rfl, rfl⟩
  first | simp only [Act.put, List.setIfInBounds_toArray, List.set_cons_succ, List.set_cons_zero] | skip
  apply L.rd (i := 1) rfl (by kernel_rfl) hC rfl
  · intro W hW
    skip
    unfold readW
    go_simp
    first | rfl | exact ⟨rfl, rfl⟩
  first | simp only [Act.put, List.setIfInBounds_toArray, List.set_cons_succ, List.set_cons_zero] | skip
  apply L.rd (i := 2) rfl (by kernel_rfl) hC rfl
  · intro W hW
    have n1 := hW.pb.cell 1; have n2 := hW.pb.cell 2; have n3 := hW.pb.cell 3; have n4 := hW.pb.cell 4
    unfold readW
    go_simp
    first | rfl | exact ⟨rfl, rfl⟩
  first | simp only [Act.put, List.setIfInBounds_toArray, List.set_cons_succ, List.set_cons_zero] | skip
  apply L.rd (i := 5) rfl (by kernel_rfl) hC rfl
  · intro W hW
    skip
    unfold readW
    go_simp
    first | rfl | exact ⟨rfl, rfl⟩
  first | simp only [Act.put, List.setIfInBounds_toArray, List.set_cons_succ, List.set_cons_zero] | skip
  apply L.two (i := 3) (k := 6) rfl rfl (by kernel_rfl) rfl rfl
  · unfold stepT
    go_simp
    go_at_call 97
    refine (HNT.out _).mono ?_
    rintro e wn ⟨rfl, hbn⟩
    have hC := hC.below hbn
    have hO := own_below hO hbn
    have hD := hD.trans (hbn.mono hD.size)
    clear hbn
    refine ⟨_, rfl, hC, ?_⟩
    first | simp only [Act.put, List.setIfInBounds_toArray, List.set_cons_succ, List.set_cons_zero] | skip
    apply L.rd (i := 4) rfl (by kernel_rfl) hC rfl
    · intro W hW
      skip
      unfold readW
      go_simp
      first | rfl | exact ⟨rfl, rfl⟩
    first | simp only [Act.put, List.setIfInBounds_toArray, List.set_cons_succ, List.set_cons_zero] | skip
    generalize wn = wd at hC hO hD ⊢
    apply L.one (i := 6) rfl (by kernel_rfl) rfl
    unfold stepT
    go_simp
    have hkb : Blk (wd.alloc (.cells #[.int .i64 0, .int .u64 0, .int .u64 0, .int .u64 0, .int .u64 0, .string ⟨#[]⟩, .slice none 0 0] 38)) wd.heap.size 38 #[.int .i64 0, .int .u64 0, .int .u64 0, .int .u64 0, .int .u64 0, .string ⟨#[]⟩, .slice none 0 0] := blk_at rfl
    have hC := hC.alloc (.cells #[.int .i64 0, .int .u64 0, .int .u64 0, .int .u64 0, .int .u64 0, .string ⟨#[]⟩, .slice none 0 0] 38)
    have hO := hO.alloc (.cells #[.int .i64 0, .int .u64 0, .int .u64 0, .int .u64 0, .int .u64 0, .string ⟨#[]⟩, .slice none 0 0] 38)
    have hD := hD.alloc hD.size (.cells #[.int .i64 0, .int .u64 0, .int .u64 0, .int .u64 0, .int .u64 0, .string ⟨#[]⟩, .slice none 0 0] 38)
    generalize (wd.alloc (.cells #[.int .i64 0, .int .u64 0, .int .u64 0, .int .u64 0, .int .u64 0, .string ⟨#[]⟩, .slice none 0 0] 38)) = wk at hC hkb hO hD ⊢
    generalize wd.heap.size = nb at hkb ⊢
    refine ⟨hC, ?_⟩
    first | simp only [Act.put, List.setIfInBounds_toArray, List.set_cons_succ, List.set_cons_zero] | skip
    apply L.one (i := 7) rfl (by kernel_rfl) rfl
    refine stepT_append_at (.tmp 13) (.tmp 19) 36 rfl (w.heap.size + 2) 38 i0 _ 7 80 Try.underlying36 hi0 hz0 hz1 hz2 rfl (by decide) (.slice V m cv) m (kdF rows m) (by simp [Act.eval]) hO ⟨nb, 0, none⟩ 1 1 zeroC (by simp [Act.eval]) rfl (fun i u hu => by rw [cell_add]; exact (hkb.cell i).trans (by rw [List.getElem?_toArray]; exact hu)) (by decide) (by unfold maxLen; omega) (by omega) (by have := hD.size; omega) ?_
    intro v' w3 hown3 hgr hat
    obtain ⟨V3, c3, rfl⟩ := own_form hown3
    have hC := hC.grown hO hgr
    have hT := (TwoW.of_below (ob := w.heap.size + 1) (r := (Value.slice V m cv).ownBlock) hD).grown hgr
    obtain ⟨g, cur, rfl, hgb, hcur, hc1, hc2, hc3, htk⟩ := own_last hown3 HXL.out
    have hgw : g = w.heap.size + 1 ∨ some g = (Value.slice V m cv).ownBlock ∨ W0.heap.size ≤ g := by
      rcases hat with h1 | h1
      · exact .inr (.inl h1)
      · simp only [Value.ownBlock, Option.some.injEq] at h1
        exact .inr (.inr (by have := hD.size; omega))
    have hat2 : (Value.slice (some (Addr.mk g 0 none)) (m + 1) c3).ownBlock = (Value.slice V m cv).ownBlock ∨ ∃ q, (Value.slice (some (Addr.mk g 0 none)) (m + 1) c3).ownBlock = some q ∧ W0.heap.size ≤ q := by
      rcases hat with h1 | h1
      · exact .inl h1
      · exact .inr ⟨_, h1, hD.size⟩
    refine ⟨fun _ => hC, ?_⟩
    first | simp only [Act.put, List.setIfInBounds_toArray, List.set_cons_succ, List.set_cons_zero] | skip
    have hlt : (m : Int) < (m : Int) + 1 := by omega
    apply L.rdl (i := 8) rfl (by kernel_rfl) rfl
    · intro W
      unfold readW
      go_simp
      first | rfl | exact ⟨rfl, rfl⟩
    first | simp only [Act.put, List.setIfInBounds_toArray, List.set_cons_succ, List.set_cons_zero] | skip
    have hgo : g ≠ w.heap.size + 1 := by omega
    have hgz : ∀ i, i < 7 → ∃ u0, cur[m * 7 + i]? = some u0 := fun i hi => ⟨_, Array.getElem?_eq_getElem (by rw [hc3]; omega)⟩
    obtain ⟨o0, g0⟩ := hgz 0 (by omega)
    obtain ⟨o1, g1⟩ := hgz 1 (by omega)
    obtain ⟨o2, g2⟩ := hgz 2 (by omega)
    obtain ⟨o3, g3⟩ := hgz 3 (by omega)
    obtain ⟨o4, g4⟩ := hgz 4 (by omega)
    obtain ⟨o5, g5⟩ := hgz 5 (by omega)
    obtain ⟨o6, g6⟩ := hgz 6 (by omega)
    have hobb := hC.ob
    have HC3 := Lib.hid hc3
    have HTK := Lib.hid htk
    have HT := Lib.hid hT
    have HA2 := Lib.hid hat2
    have HGW := Lib.hid hgw
    clear hown3 hgr hat hgz hO hD hkb hc3 htk hT hat2 hgw hC
    apply L.two (i := 9) (k := 10) rfl rfl (by kernel_rfl) rfl rfl
    · have z0 : w3.cell? ⟨g, m * 7, none⟩ = some o0 := (hcur.cell _).trans g0
      have z1 : w3.cell? ⟨g, m * 7 + 1, none⟩ = some o1 := (hcur.cell _).trans g1
      have z2 : w3.cell? ⟨g, m * 7 + 2, none⟩ = some o2 := (hcur.cell _).trans g2
      have z3 : w3.cell? ⟨g, m * 7 + 3, none⟩ = some o3 := (hcur.cell _).trans g3
      have z4 : w3.cell? ⟨g, m * 7 + 4, none⟩ = some o4 := (hcur.cell _).trans g4
      have z5 : w3.cell? ⟨g, m * 7 + 5, none⟩ = some o5 := (hcur.cell _).trans g5
      have z6 : w3.cell? ⟨g, m * 7 + 6, none⟩ = some o6 := (hcur.cell _).trans g6
      have f0 := hcur.frozen (m * 7)
      have f1 := hcur.frozen (m * 7 + 1)
      have f2 := hcur.frozen (m * 7 + 2)
      have f3 := hcur.frozen (m * 7 + 3)
      have f4 := hcur.frozen (m * 7 + 4)
      have f5 := hcur.frozen (m * 7 + 5)
      have f6 := hcur.frozen (m * 7 + 6)
      have hobb1 : Blk (((((((w3.setCell ⟨g, m * 7, none⟩ (.int .i64 2)).setCell ⟨g, m * 7 + 1, none⟩ (.int .u64 a2)).setCell ⟨g, m * 7 + 2, none⟩ (.int .u64 b2)).setCell ⟨g, m * 7 + 3, none⟩ (.int .u64 c2)).setCell ⟨g, m * 7 + 4, none⟩ (.int .u64 d2)).setCell ⟨g, m * 7 + 5, none⟩ (.string ⟨#[]⟩)).setCell ⟨g, m * 7 + 6, none⟩ (.slice none 0 0)) (w.heap.size + 1) 36 #[.slice V m cv] := (((((((hobb.far (by show w.heap.size + 1 ≠ g; omega) _).far (by show w.heap.size + 1 ≠ g; omega) _).far (by show w.heap.size + 1 ≠ g; omega) _).far (by show w.heap.size + 1 ≠ g; omega) _).far (by show w.heap.size + 1 ≠ g; omega) _).far (by show w.heap.size + 1 ≠ g; omega) _).far (by show w.heap.size + 1 ≠ g; omega) _)
      have hcur1 := (((((((hcur.set_ (m * 7) (.int .i64 2)).set_ (m * 7 + 1) (.int .u64 a2)).set_ (m * 7 + 2) (.int .u64 b2)).set_ (m * 7 + 3) (.int .u64 c2)).set_ (m * 7 + 4) (.int .u64 d2)).set_ (m * 7 + 5) (.string ⟨#[]⟩)).set_ (m * 7 + 6) (.slice none 0 0))
      have hT1 : TwoW (w.heap.size + 1) (Value.slice V m cv).ownBlock W0 (((((((w3.setCell ⟨g, m * 7, none⟩ (.int .i64 2)).setCell ⟨g, m * 7 + 1, none⟩ (.int .u64 a2)).setCell ⟨g, m * 7 + 2, none⟩ (.int .u64 b2)).setCell ⟨g, m * 7 + 3, none⟩ (.int .u64 c2)).setCell ⟨g, m * 7 + 4, none⟩ (.int .u64 d2)).setCell ⟨g, m * 7 + 5, none⟩ (.string ⟨#[]⟩)).setCell ⟨g, m * 7 + 6, none⟩ (.slice none 0 0)) := (((((((HT.out.set_ HGW.out _ _).set_ HGW.out _ _).set_ HGW.out _ _).set_ HGW.out _ _).set_ HGW.out _ _).set_ HGW.out _ _).set_ HGW.out _ _)
      unfold stepT
      go_simp
      have HCU0 := Lib.hid hcur1
      have HT1 := Lib.hid hT1
      clear z0 z1 z2 z3 z4 z5 z6 f0 f1 f2 f3 f4 f5 f6 g0 g1 g2 g3 g4 g5 g6 hcur hobb hcur1 hT1
      generalize (((((((w3.setCell ⟨g, m * 7, none⟩ (.int .i64 2)).setCell ⟨g, m * 7 + 1, none⟩ (.int .u64 a2)).setCell ⟨g, m * 7 + 2, none⟩ (.int .u64 b2)).setCell ⟨g, m * 7 + 3, none⟩ (.int .u64 c2)).setCell ⟨g, m * 7 + 4, none⟩ (.int .u64 d2)).setCell ⟨g, m * 7 + 5, none⟩ (.string ⟨#[]⟩)).setCell ⟨g, m * 7 + 6, none⟩ (.slice none 0 0)) = W1 at hobb1 HCU0 HT1 ⊢
      have n0 := hobb1.cell 0
      have f0 := hobb1.frozen 0
      have hob2 : Blk (W1.setCell ⟨w.heap.size + 1, 0, none⟩ (.slice (some ⟨g, 0, none⟩) (m + 1) c3)) (w.heap.size + 1) 36 #[(.slice (some ⟨g, 0, none⟩) (m + 1) c3)] := hobb1.set_ 0 _
      have HCU := Lib.hid (HCU0.out.far (p := ⟨w.heap.size + 1, 0, none⟩) (by show g ≠ w.heap.size + 1; omega) (.slice (some ⟨g, 0, none⟩) (m + 1) c3))
      have hT2 := HT1.out.set_ (g := w.heap.size + 1) (.inl rfl) 0 (.slice (some ⟨g, 0, none⟩) (m + 1) c3)
      have hown2 : (W1.setCell ⟨w.heap.size + 1, 0, none⟩ (.slice (some ⟨g, 0, none⟩) (m + 1) c3)).ownsRow (w.heap.size + 2) 38 7 (.slice (some ⟨g, 0, none⟩) (m + 1) c3) (m + 1) (kdF rows m ++ [.int .i64 2, .int .u64 a2, .int .u64 b2, .int .u64 c2, .int .u64 d2, .string ⟨#[]⟩, .slice none 0 0]) := by
        refine own_of_last hgb HCU.out hc1 hc2 (by simp [HC3.out]) (by rw [List.length_append, HXL.out]; show m * 7 + 7 = _; omega) ?_
        simp only [Array.toList_setIfInBounds]
        rw [show (m + 1) * 7 = m * 7 + 7 by omega, take_set7 _ _ _ _ _ _ _ (by rw [Array.length_toList, HC3.out]; omega), HTK.out]
      have HS := Lib.hid (T0.push' HML.out hT2 hob2 HEX.out hown2 HA2.out)
      clear hown2 hT2 hob2 HCU HCU0 HT1
      apply L.one (i := 10) rfl (by kernel_rfl) rfl
      unfold stepT
      go_simp
      refine L.done (by kernel_rfl) ?_
      clear hobb1 n0 f0
      generalize (W1.setCell ⟨w.heap.size + 1, 0, none⟩ (.slice (some ⟨g, 0, none⟩) (m + 1) c3)) = W2 at HS ⊢
      (have n9 := HS.out.ob' HML.out; have HF := Lib.hid (HQ.out _ _ _ (HS.out.fin' HML.out)); clear HS; go_wp2; exact HF.out)
    · have n0 := hobb.cell 0
      have fo := hobb.frozen 0
      unfold stepT
      go_simp
      have hob1 : Blk (w3.setCell ⟨w.heap.size + 1, 0, none⟩ (.slice (some ⟨g, 0, none⟩) (m + 1) c3)) (w.heap.size + 1) 36 #[(.slice (some ⟨g, 0, none⟩) (m + 1) c3)] := hobb.set_ 0 _
      have hcu1 := hcur.far (p := ⟨w.heap.size + 1, 0, none⟩) (by show g ≠ w.heap.size + 1; omega) (.slice (some ⟨g, 0, none⟩) (m + 1) c3)
      have hT1 := HT.out.set_ (g := w.heap.size + 1) (.inl rfl) 0 (.slice (some ⟨g, 0, none⟩) (m + 1) c3)
      clear n0 fo hobb hcur
      generalize (w3.setCell ⟨w.heap.size + 1, 0, none⟩ (.slice (some ⟨g, 0, none⟩) (m + 1) c3)) = W1 at hob1 hcu1 hT1 ⊢
      have z0 : W1.cell? ⟨g, m * 7, none⟩ = some o0 := (hcu1.cell _).trans g0
      have z1 : W1.cell? ⟨g, m * 7 + 1, none⟩ = some o1 := (hcu1.cell _).trans g1
      have z2 : W1.cell? ⟨g, m * 7 + 2, none⟩ = some o2 := (hcu1.cell _).trans g2
      have z3 : W1.cell? ⟨g, m * 7 + 3, none⟩ = some o3 := (hcu1.cell _).trans g3
      have z4 : W1.cell? ⟨g, m * 7 + 4, none⟩ = some o4 := (hcu1.cell _).trans g4
      have z5 : W1.cell? ⟨g, m * 7 + 5, none⟩ = some o5 := (hcu1.cell _).trans g5
      have z6 : W1.cell? ⟨g, m * 7 + 6, none⟩ = some o6 := (hcu1.cell _).trans g6
      have f0 := hcu1.frozen (m * 7)
      have f1 := hcu1.frozen (m * 7 + 1)
      have f2 := hcu1.frozen (m * 7 + 2)
      have f3 := hcu1.frozen (m * 7 + 3)
      have f4 := hcu1.frozen (m * 7 + 4)
      have f5 := hcu1.frozen (m * 7 + 5)
      have f6 := hcu1.frozen (m * 7 + 6)
      have hob2 : Blk (((((((W1.setCell ⟨g, m * 7, none⟩ (.int .i64 2)).setCell ⟨g, m * 7 + 1, none⟩ (.int .u64 a2)).setCell ⟨g, m * 7 + 2, none⟩ (.int .u64 b2)).setCell ⟨g, m * 7 + 3, none⟩ (.int .u64 c2)).setCell ⟨g, m * 7 + 4, none⟩ (.int .u64 d2)).setCell ⟨g, m * 7 + 5, none⟩ (.string ⟨#[]⟩)).setCell ⟨g, m * 7 + 6, none⟩ (.slice none 0 0)) (w.heap.size + 1) 36 #[(.slice (some ⟨g, 0, none⟩) (m + 1) c3)] := (((((((hob1.far (by show w.heap.size + 1 ≠ g; omega) _).far (by show w.heap.size + 1 ≠ g; omega) _).far (by show w.heap.size + 1 ≠ g; omega) _).far (by show w.heap.size + 1 ≠ g; omega) _).far (by show w.heap.size + 1 ≠ g; omega) _).far (by show w.heap.size + 1 ≠ g; omega) _).far (by show w.heap.size + 1 ≠ g; omega) _)
      have HCU := Lib.hid (((((((hcu1.set_ (m * 7) (.int .i64 2)).set_ (m * 7 + 1) (.int .u64 a2)).set_ (m * 7 + 2) (.int .u64 b2)).set_ (m * 7 + 3) (.int .u64 c2)).set_ (m * 7 + 4) (.int .u64 d2)).set_ (m * 7 + 5) (.string ⟨#[]⟩)).set_ (m * 7 + 6) (.slice none 0 0))
      have hT2 : TwoW (w.heap.size + 1) (Value.slice V m cv).ownBlock W0 (((((((W1.setCell ⟨g, m * 7, none⟩ (.int .i64 2)).setCell ⟨g, m * 7 + 1, none⟩ (.int .u64 a2)).setCell ⟨g, m * 7 + 2, none⟩ (.int .u64 b2)).setCell ⟨g, m * 7 + 3, none⟩ (.int .u64 c2)).setCell ⟨g, m * 7 + 4, none⟩ (.int .u64 d2)).setCell ⟨g, m * 7 + 5, none⟩ (.string ⟨#[]⟩)).setCell ⟨g, m * 7 + 6, none⟩ (.slice none 0 0)) := (((((((hT1.set_ HGW.out _ _).set_ HGW.out _ _).set_ HGW.out _ _).set_ HGW.out _ _).set_ HGW.out _ _).set_ HGW.out _ _).set_ HGW.out _ _)
      have hown2 : (((((((W1.setCell ⟨g, m * 7, none⟩ (.int .i64 2)).setCell ⟨g, m * 7 + 1, none⟩ (.int .u64 a2)).setCell ⟨g, m * 7 + 2, none⟩ (.int .u64 b2)).setCell ⟨g, m * 7 + 3, none⟩ (.int .u64 c2)).setCell ⟨g, m * 7 + 4, none⟩ (.int .u64 d2)).setCell ⟨g, m * 7 + 5, none⟩ (.string ⟨#[]⟩)).setCell ⟨g, m * 7 + 6, none⟩ (.slice none 0 0)).ownsRow (w.heap.size + 2) 38 7 (.slice (some ⟨g, 0, none⟩) (m + 1) c3) (m + 1) (kdF rows m ++ [.int .i64 2, .int .u64 a2, .int .u64 b2, .int .u64 c2, .int .u64 d2, .string ⟨#[]⟩, .slice none 0 0]) := by
        refine own_of_last hgb HCU.out hc1 hc2 (by simp [HC3.out]) (by rw [List.length_append, HXL.out]; show m * 7 + 7 = _; omega) ?_
        simp only [Array.toList_setIfInBounds]
        rw [show (m + 1) * 7 = m * 7 + 7 by omega, take_set7 _ _ _ _ _ _ _ (by rw [Array.length_toList, HC3.out]; omega), HTK.out]
      have HS := Lib.hid (T0.push' HML.out hT2 hob2 HEX.out hown2 HA2.out)
      clear hown2 hT2 hob2 HCU hob1 hT1 hcu1 g0 g1 g2 g3 g4 g5 g6
      apply L.one (i := 9) rfl (by kernel_rfl) rfl
      unfold stepT
      go_simp
      refine L.done (by kernel_rfl) ?_
      clear z0 z1 z2 z3 z4 z5 z6 f0 f1 f2 f3 f4 f5 f6
      generalize (((((((W1.setCell ⟨g, m * 7, none⟩ (.int .i64 2)).setCell ⟨g, m * 7 + 1, none⟩ (.int .u64 a2)).setCell ⟨g, m * 7 + 2, none⟩ (.int .u64 b2)).setCell ⟨g, m * 7 + 3, none⟩ (.int .u64 c2)).setCell ⟨g, m * 7 + 4, none⟩ (.int .u64 d2)).setCell ⟨g, m * 7 + 5, none⟩ (.string ⟨#[]⟩)).setCell ⟨g, m * 7 + 6, none⟩ (.slice none 0 0)) = W2 at HS ⊢
      (have n9 := HS.out.ob' HML.out; have HF := Lib.hid (HQ.out _ _ _ (HS.out.fin' HML.out)); clear HS; go_wp2; exact HF.out)
  · skip
    unfold stepT
    go_simp
    have hkb : Blk (wd.alloc (.cells #[.int .i64 0, .int .u64 0, .int .u64 0, .int .u64 0, .int .u64 0, .string ⟨#[]⟩, .slice none 0 0] 38)) wd.heap.size 38 #[.int .i64 0, .int .u64 0, .int .u64 0, .int .u64 0, .int .u64 0, .string ⟨#[]⟩, .slice none 0 0] := blk_at rfl
    have hC := hC.alloc (.cells #[.int .i64 0, .int .u64 0, .int .u64 0, .int .u64 0, .int .u64 0, .string ⟨#[]⟩, .slice none 0 0] 38)
    have hO := hO.alloc (.cells #[.int .i64 0, .int .u64 0, .int .u64 0, .int .u64 0, .int .u64 0, .string ⟨#[]⟩, .slice none 0 0] 38)
    have hD := hD.alloc hD.size (.cells #[.int .i64 0, .int .u64 0, .int .u64 0, .int .u64 0, .int .u64 0, .string ⟨#[]⟩, .slice none 0 0] 38)
    generalize (wd.alloc (.cells #[.int .i64 0, .int .u64 0, .int .u64 0, .int .u64 0, .int .u64 0, .string ⟨#[]⟩, .slice none 0 0] 38)) = wk at hC hkb hO hD ⊢
    generalize wd.heap.size = nb at hkb ⊢
    refine ⟨hC, ?_⟩
    first | simp only [Act.put, List.setIfInBounds_toArray, List.set_cons_succ, List.set_cons_zero] | skip
    apply L.one (i := 3) rfl (by kernel_rfl) rfl
    unfold stepT
    go_simp
    go_at_call 97
    refine (HNT.out _).mono ?_
    rintro e wn ⟨rfl, hbn⟩
    have hkb := hkb.below hbn hkb.lt
    have hC := hC.below hbn
    have hO := own_below hO hbn
    have hD := hD.trans (hbn.mono hD.size)
    clear hbn
    refine ⟨_, rfl, hC, ?_⟩
    first | simp only [Act.put, List.setIfInBounds_toArray, List.set_cons_succ, List.set_cons_zero] | skip
    apply L.rd (i := 4) rfl (by kernel_rfl) hC rfl
    · intro W hW
      skip
      unfold readW
      go_simp
      first | rfl | exact ⟨rfl, rfl⟩
    first | simp only [Act.put, List.setIfInBounds_toArray, List.set_cons_succ, List.set_cons_zero] | skip
    apply L.one (i := 7) rfl (by kernel_rfl) rfl
    refine stepT_append_at (.tmp 13) (.tmp 19) 36 rfl (w.heap.size + 2) 38 i0 _ 7 80 Try.underlying36 hi0 hz0 hz1 hz2 rfl (by decide) (.slice V m cv) m (kdF rows m) (by simp [Act.eval]) hO ⟨nb, 0, none⟩ 1 1 zeroC (by simp [Act.eval]) rfl (fun i u hu => by rw [cell_add]; exact (hkb.cell i).trans (by rw [List.getElem?_toArray]; exact hu)) (by decide) (by unfold maxLen; omega) (by omega) (by have := hD.size; omega) ?_
    intro v' w3 hown3 hgr hat
    obtain ⟨V3, c3, rfl⟩ := own_form hown3
    have hC := hC.grown hO hgr
    have hT := (TwoW.of_below (ob := w.heap.size + 1) (r := (Value.slice V m cv).ownBlock) hD).grown hgr
    obtain ⟨g, cur, rfl, hgb, hcur, hc1, hc2, hc3, htk⟩ := own_last hown3 HXL.out
    have hgw : g = w.heap.size + 1 ∨ some g = (Value.slice V m cv).ownBlock ∨ W0.heap.size ≤ g := by
      rcases hat with h1 | h1
      · exact .inr (.inl h1)
      · simp only [Value.ownBlock, Option.some.injEq] at h1
        exact .inr (.inr (by have := hD.size; omega))
    have hat2 : (Value.slice (some (Addr.mk g 0 none)) (m + 1) c3).ownBlock = (Value.slice V m cv).ownBlock ∨ ∃ q, (Value.slice (some (Addr.mk g 0 none)) (m + 1) c3).ownBlock = some q ∧ W0.heap.size ≤ q := by
      rcases hat with h1 | h1
      · exact .inl h1
      · exact .inr ⟨_, h1, hD.size⟩
    refine ⟨fun _ => hC, ?_⟩
    first | simp only [Act.put, List.setIfInBounds_toArray, List.set_cons_succ, List.set_cons_zero] | skip
    have hlt : (m : Int) < (m : Int) + 1 := by omega
    apply L.rdl (i := 8) rfl (by kernel_rfl) rfl
    · intro W
      unfold readW
      go_simp
      first | rfl | exact ⟨rfl, rfl⟩
    first | simp only [Act.put, List.setIfInBounds_toArray, List.set_cons_succ, List.set_cons_zero] | skip
    have hgo : g ≠ w.heap.size + 1 := by omega
    have hgz : ∀ i, i < 7 → ∃ u0, cur[m * 7 + i]? = some u0 := fun i hi => ⟨_, Array.getElem?_eq_getElem (by rw [hc3]; omega)⟩
    obtain ⟨o0, g0⟩ := hgz 0 (by omega)
    obtain ⟨o1, g1⟩ := hgz 1 (by omega)
    obtain ⟨o2, g2⟩ := hgz 2 (by omega)
    obtain ⟨o3, g3⟩ := hgz 3 (by omega)
    obtain ⟨o4, g4⟩ := hgz 4 (by omega)
    obtain ⟨o5, g5⟩ := hgz 5 (by omega)
    obtain ⟨o6, g6⟩ := hgz 6 (by omega)
    have hobb := hC.ob
    have HC3 := Lib.hid hc3
    have HTK := Lib.hid htk
    have HT := Lib.hid hT
    have HA2 := Lib.hid hat2
    have HGW := Lib.hid hgw
    clear hown3 hgr hat hgz hO hD hkb hc3 htk hT hat2 hgw hC
    apply L.two (i := 9) (k := 10) rfl rfl (by kernel_rfl) rfl rfl
    · have z0 : w3.cell? ⟨g, m * 7, none⟩ = some o0 := (hcur.cell _).trans g0
      have z1 : w3.cell? ⟨g, m * 7 + 1, none⟩ = some o1 := (hcur.cell _).trans g1
      have z2 : w3.cell? ⟨g, m * 7 + 2, none⟩ = some o2 := (hcur.cell _).trans g2
      have z3 : w3.cell? ⟨g, m * 7 + 3, none⟩ = some o3 := (hcur.cell _).trans g3
      have z4 : w3.cell? ⟨g, m * 7 + 4, none⟩ = some o4 := (hcur.cell _).trans g4
      have z5 : w3.cell? ⟨g, m * 7 + 5, none⟩ = some o5 := (hcur.cell _).trans g5
      have z6 : w3.cell? ⟨g, m * 7 + 6, none⟩ = some o6 := (hcur.cell _).trans g6
      have f0 := hcur.frozen (m * 7)
      have f1 := hcur.frozen (m * 7 + 1)
      have f2 := hcur.frozen (m * 7 + 2)
      have f3 := hcur.frozen (m * 7 + 3)
      have f4 := hcur.frozen (m * 7 + 4)
      have f5 := hcur.frozen (m * 7 + 5)
      have f6 := hcur.frozen (m * 7 + 6)
      have hobb1 : Blk (((((((w3.setCell ⟨g, m * 7, none⟩ (.int .i64 2)).setCell ⟨g, m * 7 + 1, none⟩ (.int .u64 a2)).setCell ⟨g, m * 7 + 2, none⟩ (.int .u64 b2)).setCell ⟨g, m * 7 + 3, none⟩ (.int .u64 c2)).setCell ⟨g, m * 7 + 4, none⟩ (.int .u64 d2)).setCell ⟨g, m * 7 + 5, none⟩ (.string ⟨#[]⟩)).setCell ⟨g, m * 7 + 6, none⟩ (.slice none 0 0)) (w.heap.size + 1) 36 #[.slice V m cv] := (((((((hobb.far (by show w.heap.size + 1 ≠ g; omega) _).far (by show w.heap.size + 1 ≠ g; omega) _).far (by show w.heap.size + 1 ≠ g; omega) _).far (by show w.heap.size + 1 ≠ g; omega) _).far (by show w.heap.size + 1 ≠ g; omega) _).far (by show w.heap.size + 1 ≠ g; omega) _).far (by show w.heap.size + 1 ≠ g; omega) _)
      have hcur1 := (((((((hcur.set_ (m * 7) (.int .i64 2)).set_ (m * 7 + 1) (.int .u64 a2)).set_ (m * 7 + 2) (.int .u64 b2)).set_ (m * 7 + 3) (.int .u64 c2)).set_ (m * 7 + 4) (.int .u64 d2)).set_ (m * 7 + 5) (.string ⟨#[]⟩)).set_ (m * 7 + 6) (.slice none 0 0))
      have hT1 : TwoW (w.heap.size + 1) (Value.slice V m cv).ownBlock W0 (((((((w3.setCell ⟨g, m * 7, none⟩ (.int .i64 2)).setCell ⟨g, m * 7 + 1, none⟩ (.int .u64 a2)).setCell ⟨g, m * 7 + 2, none⟩ (.int .u64 b2)).setCell ⟨g, m * 7 + 3, none⟩ (.int .u64 c2)).setCell ⟨g, m * 7 + 4, none⟩ (.int .u64 d2)).setCell ⟨g, m * 7 + 5, none⟩ (.string ⟨#[]⟩)).setCell ⟨g, m * 7 + 6, none⟩ (.slice none 0 0)) := (((((((HT.out.set_ HGW.out _ _).set_ HGW.out _ _).set_ HGW.out _ _).set_ HGW.out _ _).set_ HGW.out _ _).set_ HGW.out _ _).set_ HGW.out _ _)
      unfold stepT
      go_simp
      have HCU0 := Lib.hid hcur1
      have HT1 := Lib.hid hT1
      clear z0 z1 z2 z3 z4 z5 z6 f0 f1 f2 f3 f4 f5 f6 g0 g1 g2 g3 g4 g5 g6 hcur hobb hcur1 hT1
      generalize (((((((w3.setCell ⟨g, m * 7, none⟩ (.int .i64 2)).setCell ⟨g, m * 7 + 1, none⟩ (.int .u64 a2)).setCell ⟨g, m * 7 + 2, none⟩ (.int .u64 b2)).setCell ⟨g, m * 7 + 3, none⟩ (.int .u64 c2)).setCell ⟨g, m * 7 + 4, none⟩ (.int .u64 d2)).setCell ⟨g, m * 7 + 5, none⟩ (.string ⟨#[]⟩)).setCell ⟨g, m * 7 + 6, none⟩ (.slice none 0 0)) = W1 at hobb1 HCU0 HT1 ⊢
      have n0 := hobb1.cell 0
      have f0 := hobb1.frozen 0
      have hob2 : Blk (W1.setCell ⟨w.heap.size + 1, 0, none⟩ (.slice (some ⟨g, 0, none⟩) (m + 1) c3)) (w.heap.size + 1) 36 #[(.slice (some ⟨g, 0, none⟩) (m + 1) c3)] := hobb1.set_ 0 _
      have HCU := Lib.hid (HCU0.out.far (p := ⟨w.heap.size + 1, 0, none⟩) (by show g ≠ w.heap.size + 1; omega) (.slice (some ⟨g, 0, none⟩) (m + 1) c3))
      have hT2 := HT1.out.set_ (g := w.heap.size + 1) (.inl rfl) 0 (.slice (some ⟨g, 0, none⟩) (m + 1) c3)
      have hown2 : (W1.setCell ⟨w.heap.size + 1, 0, none⟩ (.slice (some ⟨g, 0, none⟩) (m + 1) c3)).ownsRow (w.heap.size + 2) 38 7 (.slice (some ⟨g, 0, none⟩) (m + 1) c3) (m + 1) (kdF rows m ++ [.int .i64 2, .int .u64 a2, .int .u64 b2, .int .u64 c2, .int .u64 d2, .string ⟨#[]⟩, .slice none 0 0]) := by
        refine own_of_last hgb HCU.out hc1 hc2 (by simp [HC3.out]) (by rw [List.length_append, HXL.out]; show m * 7 + 7 = _; omega) ?_
        simp only [Array.toList_setIfInBounds]
        rw [show (m + 1) * 7 = m * 7 + 7 by omega, take_set7 _ _ _ _ _ _ _ (by rw [Array.length_toList, HC3.out]; omega), HTK.out]
      have HS := Lib.hid (T0.push' HML.out hT2 hob2 HEX.out hown2 HA2.out)
      clear hown2 hT2 hob2 HCU HCU0 HT1
      apply L.one (i := 10) rfl (by kernel_rfl) rfl
      unfold stepT
      go_simp
      refine L.done (by kernel_rfl) ?_
      clear hobb1 n0 f0
      generalize (W1.setCell ⟨w.heap.size + 1, 0, none⟩ (.slice (some ⟨g, 0, none⟩) (m + 1) c3)) = W2 at HS ⊢
      (have n9 := HS.out.ob' HML.out; have HF := Lib.hid (HQ.out _ _ _ (HS.out.fin' HML.out)); clear HS; go_wp2; exact HF.out)
    · have n0 := hobb.cell 0
      have fo := hobb.frozen 0
      unfold stepT
      go_simp
      have hob1 : Blk (w3.setCell ⟨w.heap.size + 1, 0, none⟩ (.slice (some ⟨g, 0, none⟩) (m + 1) c3)) (w.heap.size + 1) 36 #[(.slice (some ⟨g, 0, none⟩) (m + 1) c3)] := hobb.set_ 0 _
      have hcu1 := hcur.far (p := ⟨w.heap.size + 1, 0, none⟩) (by show g ≠ w.heap.size + 1; omega) (.slice (some ⟨g, 0, none⟩) (m + 1) c3)
      have hT1 := HT.out.set_ (g := w.heap.size + 1) (.inl rfl) 0 (.slice (some ⟨g, 0, none⟩) (m + 1) c3)
      clear n0 fo hobb hcur
      generalize (w3.setCell ⟨w.heap.size + 1, 0, none⟩ (.slice (some ⟨g, 0, none⟩) (m + 1) c3)) = W1 at hob1 hcu1 hT1 ⊢
      have z0 : W1.cell? ⟨g, m * 7, none⟩ = some o0 := (hcu1.cell _).trans g0
      have z1 : W1.cell? ⟨g, m * 7 + 1, none⟩ = some o1 := (hcu1.cell _).trans g1
      have z2 : W1.cell? ⟨g, m * 7 + 2, none⟩ = some o2 := (hcu1.cell _).trans g2
      have z3 : W1.cell? ⟨g, m * 7 + 3, none⟩ = some o3 := (hcu1.cell _).trans g3
      have z4 : W1.cell? ⟨g, m * 7 + 4, none⟩ = some o4 := (hcu1.cell _).trans g4
      have z5 : W1.cell? ⟨g, m * 7 + 5, none⟩ = some o5 := (hcu1.cell _).trans g5
      have z6 : W1.cell? ⟨g, m * 7 + 6, none⟩ = some o6 := (hcu1.cell _).trans g6
      have f0 := hcu1.frozen (m * 7)
      have f1 := hcu1.frozen (m * 7 + 1)
      have f2 := hcu1.frozen (m * 7 + 2)
      have f3 := hcu1.frozen (m * 7 + 3)
      have f4 := hcu1.frozen (m * 7 + 4)
      have f5 := hcu1.frozen (m * 7 + 5)
      have f6 := hcu1.frozen (m * 7 + 6)
      have hob2 : Blk (((((((W1.setCell ⟨g, m * 7, none⟩ (.int .i64 2)).setCell ⟨g, m * 7 + 1, none⟩ (.int .u64 a2)).setCell ⟨g, m * 7 + 2, none⟩ (.int .u64 b2)).setCell ⟨g, m * 7 + 3, none⟩ (.int .u64 c2)).setCell ⟨g, m * 7 + 4, none⟩ (.int .u64 d2)).setCell ⟨g, m * 7 + 5, none⟩ (.string ⟨#[]⟩)).setCell ⟨g, m * 7 + 6, none⟩ (.slice none 0 0)) (w.heap.size + 1) 36 #[(.slice (some ⟨g, 0, none⟩) (m + 1) c3)] := (((((((hob1.far (by show w.heap.size + 1 ≠ g; omega) _).far (by show w.heap.size + 1 ≠ g; omega) _).far (by show w.heap.size + 1 ≠ g; omega) _).far (by show w.heap.size + 1 ≠ g; omega) _).far (by show w.heap.size + 1 ≠ g; omega) _).far (by show w.heap.size + 1 ≠ g; omega) _).far (by show w.heap.size + 1 ≠ g; omega) _)
      have HCU := Lib.hid (((((((hcu1.set_ (m * 7) (.int .i64 2)).set_ (m * 7 + 1) (.int .u64 a2)).set_ (m * 7 + 2) (.int .u64 b2)).set_ (m * 7 + 3) (.int .u64 c2)).set_ (m * 7 + 4) (.int .u64 d2)).set_ (m * 7 + 5) (.string ⟨#[]⟩)).set_ (m * 7 + 6) (.slice none 0 0))
      have hT2 : TwoW (w.heap.size + 1) (Value.slice V m cv).ownBlock W0 (((((((W1.setCell ⟨g, m * 7, none⟩ (.int .i64 2)).setCell ⟨g, m * 7 + 1, none⟩ (.int .u64 a2)).setCell ⟨g, m * 7 + 2, none⟩ (.int .u64 b2)).setCell ⟨g, m * 7 + 3, none⟩ (.int .u64 c2)).setCell ⟨g, m * 7 + 4, none⟩ (.int .u64 d2)).setCell ⟨g, m * 7 + 5, none⟩ (.string ⟨#[]⟩)).setCell ⟨g, m * 7 + 6, none⟩ (.slice none 0 0)) := (((((((hT1.set_ HGW.out _ _).set_ HGW.out _ _).set_ HGW.out _ _).set_ HGW.out _ _).set_ HGW.out _ _).set_ HGW.out _ _).set_ HGW.out _ _)
      have hown2 : (((((((W1.setCell ⟨g, m * 7, none⟩ (.int .i64 2)).setCell ⟨g, m * 7 + 1, none⟩ (.int .u64 a2)).setCell ⟨g, m * 7 + 2, none⟩ (.int .u64 b2)).setCell ⟨g, m * 7 + 3, none⟩ (.int .u64 c2)).setCell ⟨g, m * 7 + 4, none⟩ (.int .u64 d2)).setCell ⟨g, m * 7 + 5, none⟩ (.string ⟨#[]⟩)).setCell ⟨g, m * 7 + 6, none⟩ (.slice none 0 0)).ownsRow (w.heap.size + 2) 38 7 (.slice (some ⟨g, 0, none⟩) (m + 1) c3) (m + 1) (kdF rows m ++ [.int .i64 2, .int .u64 a2, .int .u64 b2, .int .u64 c2, .int .u64 d2, .string ⟨#[]⟩, .slice none 0 0]) := by
        refine own_of_last hgb HCU.out hc1 hc2 (by simp [HC3.out]) (by rw [List.length_append, HXL.out]; show m * 7 + 7 = _; omega) ?_
        simp only [Array.toList_setIfInBounds]
        rw [show (m + 1) * 7 = m * 7 + 7 by omega, take_set7 _ _ _ _ _ _ _ (by rw [Array.length_toList, HC3.out]; omega), HTK.out]
      have HS := Lib.hid (T0.push' HML.out hT2 hob2 HEX.out hown2 HA2.out)
      clear hown2 hT2 hob2 HCU hob1 hT1 hcu1 g0 g1 g2 g3 g4 g5 g6
      apply L.one (i := 9) rfl (by kernel_rfl) rfl
      unfold stepT
      go_simp
      refine L.done (by kernel_rfl) ?_
      clear z0 z1 z2 z3 z4 z5 z6 f0 f1 f2 f3 f4 f5 f6
      generalize (((((((W1.setCell ⟨g, m * 7, none⟩ (.int .i64 2)).setCell ⟨g, m * 7 + 1, none⟩ (.int .u64 a2)).setCell ⟨g, m * 7 + 2, none⟩ (.int .u64 b2)).setCell ⟨g, m * 7 + 3, none⟩ (.int .u64 c2)).setCell ⟨g, m * 7 + 4, none⟩ (.int .u64 d2)).setCell ⟨g, m * 7 + 5, none⟩ (.string ⟨#[]⟩)).setCell ⟨g, m * 7 + 6, none⟩ (.slice none 0 0)) = W2 at HS ⊢
      (have n9 := HS.out.ob' HML.out; have HF := Lib.hid (HQ.out _ _ _ (HS.out.fin' HML.out)); clear HS; go_wp2; exact HF.out)
end Go.Proofs.Ytefechceoeeonaa
