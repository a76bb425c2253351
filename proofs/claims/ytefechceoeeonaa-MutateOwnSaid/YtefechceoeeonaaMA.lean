/- mutate.turns: alternatives. -/
import Derived.Test.YtefechceoeeonaaMuL
import Derived.Test.YtefechceoeeonaaQSpw
namespace Go.Proofs.Ytefechceoeeonaa
open Go.RowKit Go.Maps

set_option maxRecDepth 100000 in
set_option maxHeartbeats 16000000 in
theorem turns_alt (B0 : Nat) (a b c d : Int) (t : ByteArray) (ks : List Ex) (A : Option Addr) (cp : Nat) (w : World) (hB : B0 ≤ w.heap.size) (hE : ExIs w B0 (.mk 6 a b c d t ks) (exCells 6 a b c d t A ks.length cp)) (h8 : ks.length ≤ 8) :
    Calls Try.prog 83 #[.agg #[.int .i64 6, .int .u64 a, .int .u64 b, .int .u64 c, .int .u64 d, .string t, .slice A ks.length cp]] w (OutsQ B0 (lessL 6 ks ks.length ++ swapL 6 ks (ks.length - 1)) w) := by
  obtain ⟨i0, hi0, hz0, hz1, hz2⟩ := info_parts expr_info
  have hmf : ∀ (fn : Fn) (first cap : Array Value) (w : World), (Instr.makeFunc fn first cap).run Try.prog w = .ok (.func fn first cap) w := fun _ _ _ _ => rfl
  obtain ⟨row, hrd, hrow⟩ := kids_reads hE
  obtain ⟨_, _, hncp, hcpm, hAn⟩ := hE.len
  have h7r : ∀ i, i < ks.length → (row i).length = 7 := fun i hi => ex_len (hrow i _ (List.getElem?_eq_getElem hi))
  have hones := kdF_ones hrow _ (Nat.le_refl _)
  have hcln := fun W (hW : Below w.heap.size w W) => cloneE_any A ks.length cp (kdF row ks.length) W.heap.size W ((hrd.below (hW.mono hB)).more (Nat.le_trans hB hW.size)) hones (Nat.le_refl _) hAn (by omega)
  have hkid := fun j (hj : j < ks.length) => hE.kid hj
  have HCLN := Lib.hid hcln
  have HKID := Lib.hid hkid
  have HROW := Lib.hid hrow
  have H7R := Lib.hid h7r
  have HONE := Lib.hid hones
  have HAN := Lib.hid hAn
  have hxl : (kdF row ks.length).length = ks.length * 7 := kdF_len h7r
  have HXK := Lib.hid hxl
  clear hrd hcln hkid hrow h7r hones hAn hxl hncp hcpm hE
  have HQ : Hid (∀ es V cv rows W, es = lessL 6 ks ks.length ++ swapL 6 ks (ks.length - 1) → TuV B0 w #[.int .i64 6, .int .u64 a, .int .u64 b, .int .u64 c, .int .u64 d, .string t, .slice A ks.length cp] es V cv rows W → OutsQ B0 (lessL 6 ks ks.length ++ swapL 6 ks (ks.length - 1)) w (.returned (.slice V es.length cv)) W) := fun es V cv rows W he h => by
    rw [← he]
    exact h.fin
  generalize OutsQ B0 (lessL 6 ks ks.length ++ swapL 6 ks (ks.length - 1)) w = Q at HQ ⊢
  go_enter Try.func83, Try.ntmps83
  go_upto_region 8 with fail
  have hob : Blk ((w.alloc (.cells #[.int .i64 6, .int .u64 a, .int .u64 b, .int .u64 c, .int .u64 d, .string t, .slice A ks.length cp] 38)).alloc (.cells #[.slice none 0 0] 36)) (w.heap.size + 1) 36 #[.slice none 0 0] := blk_at (by simp)
  have hpb : Blk ((w.alloc (.cells #[.int .i64 6, .int .u64 a, .int .u64 b, .int .u64 c, .int .u64 d, .string t, .slice A ks.length cp] 38)).alloc (.cells #[.slice none 0 0] 36)) w.heap.size 38 #[.int .i64 6, .int .u64 a, .int .u64 b, .int .u64 c, .int .u64 d, .string t, .slice A ks.length cp] := (blk_at rfl).alloc _
  have hb0 : Below w.heap.size w ((w.alloc (.cells #[.int .i64 6, .int .u64 a, .int .u64 b, .int .u64 c, .int .u64 d, .string t, .slice A ks.length cp] 38)).alloc (.cells #[.slice none 0 0] 36)) := (by repeat (first | exact Below.refl _ _ | assumption | refine Below.drew ?_ | refine below_drewN ?_ _ | refine Below.alloc ?_ (by first | omega | (simp; omega) | simp) _ | refine Below.setCell ?_ (by first | omega | (simp; omega) | simp) _))
  generalize ((w.alloc (.cells #[.int .i64 6, .int .u64 a, .int .u64 b, .int .u64 c, .int .u64 d, .string t, .slice A ks.length cp] 38)).alloc (.cells #[.slice none 0 0] 36)) = Ws at hob hpb hb0 ⊢
  have HS0 : Hid (TuS B0 w #[.int .i64 6, .int .u64 a, .int .u64 b, .int .u64 c, .int .u64 d, .string t, .slice A ks.length cp] (lessL 6 ks 0) Ws) := ⟨none, 0, _, hB, hb0, hpb, hob, Outs.nil _ _ _⟩
  have y6 := hpb.cell 6
  simp at y6
  clear hob hpb hb0
  go_wp2
  clear y6
  go_loopw [28] (fun i wr => ∃ m : Nat, m ≤ ks.length ∧ i = .int .i64 m ∧ Hid (TuS B0 w #[.int .i64 6, .int .u64 a, .int .u64 b, .int .u64 c, .int .u64 d, .string t, .slice A ks.length cp] (lessL 6 ks m) wr)) (fun i _ => ks.length - (intOf i).toNat)
  case atStart => exact ⟨0, by omega, rfl, HS0⟩
  case round =>
    clear HS0
    obtain ⟨m, hj, rfl, HS⟩ := hrel
    obtain ⟨W0, hW0⟩ : ∃ W0, W0 = wr := ⟨_, rfl⟩
    subst hW0
    have hpb := HS.out.pb
    have hbel := HS.out.bel
    have y6 : W0.cell? ⟨w.heap.size, 6, none⟩ = some (.slice A ks.length cp) := hpb.cell 6
    by_cases hjn : m < ks.length
    · have hjl : (m : Int) < (ks.length : Int) := by omega
      have hml : (lessL 6 ks m).length = m := lessL_len _ _ _
      have hm : m ≤ 4000 := by omega
      by_cases h2 : ks.length = 2
      · have q2 : ((ks.length : Int) == 2) = true := by rw [beq_iff_eq]; omega
        obtain ⟨i1, hi1⟩ : ∃ i1, 1 - m = i1 := ⟨_, rfl⟩
        have hq1 : IntKind.i64.wrap (1 - (m : Int)) = (i1 : Int) := by rw [wrap_i64 _ (by omega) (by omega)]; omega
        have hi1l : i1 < ks.length := by omega
        obtain ⟨ad, k2, a2, b2, c2, d2, t2, ks2, A2, cp2, hA, hab, hej, hx, h7⟩ := HKID.out i1 hi1l
        subst hA
        have y0 := h7.c0
        have y1 := h7.c1
        have y2 := h7.c2
        have y3 := h7.c3
        have y4 := h7.c4
        have y5 := h7.c5
        have z6 := h7.c6
        have hab' : (ad.add (i1 * 7)).block < w.heap.size := by rw [add_block]; omega
        obtain ⟨xx, hxx⟩ : ∃ xx, Ex.mk k2 a2 b2 c2 d2 t2 ks2 = xx := ⟨_, rfl⟩
        rw [hxx] at hx hej
        have hsn : lessL 6 ks (m + 1) = lessL 6 ks m ++ [xx] := by
          rw [lessL_succ]
          unfold lessK
          rw [if_pos h2, hi1, List.getD_eq_getElem?_getD, hej, Option.getD_some]
        have HSN := Lib.hid hsn
        unfold exCells at hx
        have HX := Lib.hid hx
        have h2m : m + 1 ≤ ks.length := by omega
        clear hsn hx hej h7 hxx h2 hi1 hpb
        go_upto_region 12 with fail
        obtain ⟨es, hes⟩ : ∃ es, lessL 6 ks m = es := ⟨_, rfl⟩
        rw [hes] at HS hml HSN
        obtain ⟨V, cv, rows, T0⟩ := HS.out
        have hW0 := T0.ob.lt
        have hEX := (exF_of HX.out (hbel.mono hB)).mono (S' := fun b => b < W0.heap.size ∧ ¬ (B0 ≤ b ∧ b < w.heap.size + 2) ∧ some b ≠ (Value.slice V es.length cv).ownBlock) (fun b hb => T0.low hb) (hi' := W0.heap.size) (by omega)
        rw [hml] at hEX
        have HEX := Lib.hid hEX
        have hxl : (kdF rows es.length).length = es.length * 7 := T0.outs.own.1
        rw [hml] at hxl
        have HXL := Lib.hid hxl
        have hC := T0.c.drew
        have hD : Below W0.heap.size W0 W0.drew := (Below.refl _ _).drew
        have hO := own_below T0.outs.own hD
        rw [hml] at hC hO
        have HML := Lib.hid hml
        clear hEX hxl hml hes HS HX HCLN HKID y6
        refine wp_region_l (TuC w (.slice V m cv) #[.int .i64 6, .int .u64 a, .int .u64 b, .int .u64 c, .int .u64 d, .string t, .slice (some ad) ks.length cp]) (fun i => i == 10 || i == 11 || i == 12) (by kernel_rfl) ?_
        generalize W0.drew = wd at hC hD hO ⊢
        apply L.rd (i := 0) rfl (by kernel_rfl) hC rfl
        · intro W hW
          have n0 := hW.ob.cell 0
          unfold readW
          go_simp
          first | rfl | exact ⟨rfl, rfl⟩
        first | simp only [Act.put, List.setIfInBounds_toArray, List.set_cons_succ, List.set_cons_zero] | skip
        apply L.rd (i := 1) rfl (by kernel_rfl) hC rfl
        · intro W hW
          skip
          unfold readW
          go_simp
          first | rfl | exact ⟨rfl, rfl⟩
        first | simp only [Act.put, List.setIfInBounds_toArray, List.set_cons_succ, List.set_cons_zero] | skip
        apply L.rd (i := 2) rfl (by kernel_rfl) hC rfl
        · intro W hW
          have n0 := hW.pb.cell 6
          unfold readW
          go_simp
          first | rfl | exact ⟨rfl, rfl⟩
        first | simp only [Act.put, List.setIfInBounds_toArray, List.set_cons_succ, List.set_cons_zero] | skip
        apply L.rd (i := 3) rfl (by kernel_rfl) hC rfl
        · intro W hW
          skip
          unfold readW
          go_simp
          first | rfl | exact ⟨rfl, rfl⟩
        first | simp only [Act.put, List.setIfInBounds_toArray, List.set_cons_succ, List.set_cons_zero] | skip
        apply L.rd (i := 4) rfl (by kernel_rfl) hC rfl
        · intro W hW
          skip
          unfold readW
          go_simp
          first | rfl | exact ⟨rfl, rfl⟩
        first | simp only [Act.put, List.setIfInBounds_toArray, List.set_cons_succ, List.set_cons_zero] | skip
        apply L.rd (i := 5) rfl (by kernel_rfl) hC rfl
        · intro W hW
          skip
          unfold readW
          go_simp
          first | rfl | exact ⟨rfl, rfl⟩
        first | simp only [Act.put, List.setIfInBounds_toArray, List.set_cons_succ, List.set_cons_zero] | skip
        apply L.rd (i := 6) rfl (by kernel_rfl) hC rfl
        · intro W hW
          have n0 := (hW.bel.cell (p := ad.add (i1 * 7)) hab').trans y0; have n1 := (hW.bel.cell (p := ⟨(ad.add (i1 * 7)).block, (ad.add (i1 * 7)).off + 1, none⟩) hab').trans y1; have n2 := (hW.bel.cell (p := ⟨(ad.add (i1 * 7)).block, (ad.add (i1 * 7)).off + 2, none⟩) hab').trans y2; have n3 := (hW.bel.cell (p := ⟨(ad.add (i1 * 7)).block, (ad.add (i1 * 7)).off + 3, none⟩) hab').trans y3; have n4 := (hW.bel.cell (p := ⟨(ad.add (i1 * 7)).block, (ad.add (i1 * 7)).off + 4, none⟩) hab').trans y4; have n5 := (hW.bel.cell (p := ⟨(ad.add (i1 * 7)).block, (ad.add (i1 * 7)).off + 5, none⟩) hab').trans y5; have n6 := (hW.bel.cell (p := ⟨(ad.add (i1 * 7)).block, (ad.add (i1 * 7)).off + 6, none⟩) hab').trans z6
          unfold readW
          go_simp
          first | rfl | exact ⟨rfl, rfl⟩
        first | simp only [Act.put, List.setIfInBounds_toArray, List.set_cons_succ, List.set_cons_zero] | skip
        apply L.rd (i := 7) rfl (by kernel_rfl) hC rfl
        · intro W hW
          skip
          unfold readW
          go_simp
          first | rfl | exact ⟨rfl, rfl⟩
        first | simp only [Act.put, List.setIfInBounds_toArray, List.set_cons_succ, List.set_cons_zero] | skip
        clear y0 y1 y2 y3 y4 y5 z6
        apply L.one (i := 8) rfl (by kernel_rfl) rfl
        unfold stepT
        go_simp
        have hkb : Blk (wd.alloc (.cells #[.int .i64 0, .int .u64 0, .int .u64 0, .int .u64 0, .int .u64 0, .string ⟨#[]⟩, .slice none 0 0] 38)) wd.heap.size 38 #[.int .i64 0, .int .u64 0, .int .u64 0, .int .u64 0, .int .u64 0, .string ⟨#[]⟩, .slice none 0 0] := blk_at rfl
        have hC := hC.alloc (.cells #[.int .i64 0, .int .u64 0, .int .u64 0, .int .u64 0, .int .u64 0, .string ⟨#[]⟩, .slice none 0 0] 38)
        have hO := hO.alloc (.cells #[.int .i64 0, .int .u64 0, .int .u64 0, .int .u64 0, .int .u64 0, .string ⟨#[]⟩, .slice none 0 0] 38)
        have hD := hD.alloc hD.size (.cells #[.int .i64 0, .int .u64 0, .int .u64 0, .int .u64 0, .int .u64 0, .string ⟨#[]⟩, .slice none 0 0] 38)
        generalize (wd.alloc (.cells #[.int .i64 0, .int .u64 0, .int .u64 0, .int .u64 0, .int .u64 0, .string ⟨#[]⟩, .slice none 0 0] 38)) = wk at hC hkb hO hD ⊢
        generalize wd.heap.size = nb at hkb ⊢
        refine ⟨hC, ?_⟩
        first | simp only [Act.put, List.setIfInBounds_toArray, List.set_cons_succ, List.set_cons_zero] | skip
        apply L.one (i := 9) rfl (by kernel_rfl) rfl
        refine stepT_append_at (.tmp 35) (.tmp 43) 36 rfl (w.heap.size + 2) 38 i0 _ 7 80 Try.underlying36 hi0 hz0 hz1 hz2 rfl (by decide) (.slice V m cv) m (kdF rows m) (by simp [Act.eval]) hO ⟨nb, 0, none⟩ 1 1 zeroC (by simp [Act.eval]) rfl (fun i u hu => by rw [cell_add]; exact (hkb.cell i).trans (by rw [List.getElem?_toArray]; exact hu)) (by decide) (by unfold maxLen; omega) (by omega) (by have := hD.size; omega) ?_
        intro v' w3 hown3 hgr hat
        obtain ⟨V3, c3, rfl⟩ := own_form hown3
        have hC := hC.grown hO hgr
        have hT := (TwoW.of_below (ob := w.heap.size + 1) (r := (Value.slice V m cv).ownBlock) hD).grown hgr
        obtain ⟨g, cur, rfl, hgb, hcur, hc1, hc2, hc3, htk⟩ := own_last hown3 HXL.out
        have hgw : g = w.heap.size + 1 ∨ some g = (Value.slice V m cv).ownBlock ∨ W0.heap.size ≤ g := by
          rcases hat with h1 | h1
          · exact .inr (.inl h1)
          · simp only [Value.ownBlock, Option.some.injEq] at h1
            exact .inr (.inr (by have := hD.size; omega))
        have hat2 : (Value.slice (some (Addr.mk g 0 none)) (m + 1) c3).ownBlock = (Value.slice V m cv).ownBlock ∨ ∃ q, (Value.slice (some (Addr.mk g 0 none)) (m + 1) c3).ownBlock = some q ∧ W0.heap.size ≤ q := by
          rcases hat with h1 | h1
          · exact .inl h1
          · exact .inr ⟨_, h1, hD.size⟩
        refine ⟨fun _ => hC, ?_⟩
        first | simp only [Act.put, List.setIfInBounds_toArray, List.set_cons_succ, List.set_cons_zero] | skip
        have hlt : (m : Int) < (m : Int) + 1 := by omega
        apply L.rdl (i := 10) rfl (by kernel_rfl) rfl
        · intro W
          unfold readW
          go_simp
          first | rfl | exact ⟨rfl, rfl⟩
        first | simp only [Act.put, List.setIfInBounds_toArray, List.set_cons_succ, List.set_cons_zero] | skip
        have hgo : g ≠ w.heap.size + 1 := by omega
        have hgz : ∀ i, i < 7 → ∃ u0, cur[m * 7 + i]? = some u0 := fun i hi => ⟨_, Array.getElem?_eq_getElem (by rw [hc3]; omega)⟩
        obtain ⟨o0, g0⟩ := hgz 0 (by omega)
        obtain ⟨o1, g1⟩ := hgz 1 (by omega)
        obtain ⟨o2, g2⟩ := hgz 2 (by omega)
        obtain ⟨o3, g3⟩ := hgz 3 (by omega)
        obtain ⟨o4, g4⟩ := hgz 4 (by omega)
        obtain ⟨o5, g5⟩ := hgz 5 (by omega)
        obtain ⟨o6, g6⟩ := hgz 6 (by omega)
        have hobb := hC.ob
        have HC3 := Lib.hid hc3
        have HTK := Lib.hid htk
        have HT := Lib.hid hT
        have HA2 := Lib.hid hat2
        have HGW := Lib.hid hgw
        clear hown3 hgr hat hgz hO hD hkb hc3 htk hT hat2 hgw hC
        apply L.two (i := 11) (k := 12) rfl rfl (by kernel_rfl) rfl rfl
        · have z0 : w3.cell? ⟨g, m * 7, none⟩ = some o0 := (hcur.cell _).trans g0
          have z1 : w3.cell? ⟨g, m * 7 + 1, none⟩ = some o1 := (hcur.cell _).trans g1
          have z2 : w3.cell? ⟨g, m * 7 + 2, none⟩ = some o2 := (hcur.cell _).trans g2
          have z3 : w3.cell? ⟨g, m * 7 + 3, none⟩ = some o3 := (hcur.cell _).trans g3
          have z4 : w3.cell? ⟨g, m * 7 + 4, none⟩ = some o4 := (hcur.cell _).trans g4
          have z5 : w3.cell? ⟨g, m * 7 + 5, none⟩ = some o5 := (hcur.cell _).trans g5
          have z6 : w3.cell? ⟨g, m * 7 + 6, none⟩ = some o6 := (hcur.cell _).trans g6
          have f0 := hcur.frozen (m * 7)
          have f1 := hcur.frozen (m * 7 + 1)
          have f2 := hcur.frozen (m * 7 + 2)
          have f3 := hcur.frozen (m * 7 + 3)
          have f4 := hcur.frozen (m * 7 + 4)
          have f5 := hcur.frozen (m * 7 + 5)
          have f6 := hcur.frozen (m * 7 + 6)
          have hobb1 : Blk (((((((w3.setCell ⟨g, m * 7, none⟩ (.int .i64 k2)).setCell ⟨g, m * 7 + 1, none⟩ (.int .u64 a2)).setCell ⟨g, m * 7 + 2, none⟩ (.int .u64 b2)).setCell ⟨g, m * 7 + 3, none⟩ (.int .u64 c2)).setCell ⟨g, m * 7 + 4, none⟩ (.int .u64 d2)).setCell ⟨g, m * 7 + 5, none⟩ (.string t2)).setCell ⟨g, m * 7 + 6, none⟩ (.slice A2 ks2.length cp2)) (w.heap.size + 1) 36 #[.slice V m cv] := (((((((hobb.far (by show w.heap.size + 1 ≠ g; omega) _).far (by show w.heap.size + 1 ≠ g; omega) _).far (by show w.heap.size + 1 ≠ g; omega) _).far (by show w.heap.size + 1 ≠ g; omega) _).far (by show w.heap.size + 1 ≠ g; omega) _).far (by show w.heap.size + 1 ≠ g; omega) _).far (by show w.heap.size + 1 ≠ g; omega) _)
          have hcur1 := (((((((hcur.set_ (m * 7) (.int .i64 k2)).set_ (m * 7 + 1) (.int .u64 a2)).set_ (m * 7 + 2) (.int .u64 b2)).set_ (m * 7 + 3) (.int .u64 c2)).set_ (m * 7 + 4) (.int .u64 d2)).set_ (m * 7 + 5) (.string t2)).set_ (m * 7 + 6) (.slice A2 ks2.length cp2))
          have hT1 : TwoW (w.heap.size + 1) (Value.slice V m cv).ownBlock W0 (((((((w3.setCell ⟨g, m * 7, none⟩ (.int .i64 k2)).setCell ⟨g, m * 7 + 1, none⟩ (.int .u64 a2)).setCell ⟨g, m * 7 + 2, none⟩ (.int .u64 b2)).setCell ⟨g, m * 7 + 3, none⟩ (.int .u64 c2)).setCell ⟨g, m * 7 + 4, none⟩ (.int .u64 d2)).setCell ⟨g, m * 7 + 5, none⟩ (.string t2)).setCell ⟨g, m * 7 + 6, none⟩ (.slice A2 ks2.length cp2)) := (((((((HT.out.set_ HGW.out _ _).set_ HGW.out _ _).set_ HGW.out _ _).set_ HGW.out _ _).set_ HGW.out _ _).set_ HGW.out _ _).set_ HGW.out _ _)
          unfold stepT
          go_simp
          have HCU0 := Lib.hid hcur1
          have HT1 := Lib.hid hT1
          clear z0 z1 z2 z3 z4 z5 z6 f0 f1 f2 f3 f4 f5 f6 g0 g1 g2 g3 g4 g5 g6 hcur hobb hcur1 hT1
          generalize (((((((w3.setCell ⟨g, m * 7, none⟩ (.int .i64 k2)).setCell ⟨g, m * 7 + 1, none⟩ (.int .u64 a2)).setCell ⟨g, m * 7 + 2, none⟩ (.int .u64 b2)).setCell ⟨g, m * 7 + 3, none⟩ (.int .u64 c2)).setCell ⟨g, m * 7 + 4, none⟩ (.int .u64 d2)).setCell ⟨g, m * 7 + 5, none⟩ (.string t2)).setCell ⟨g, m * 7 + 6, none⟩ (.slice A2 ks2.length cp2)) = W1 at hobb1 HCU0 HT1 ⊢
          have n0 := hobb1.cell 0
          have f0 := hobb1.frozen 0
          have hob2 : Blk (W1.setCell ⟨w.heap.size + 1, 0, none⟩ (.slice (some ⟨g, 0, none⟩) (m + 1) c3)) (w.heap.size + 1) 36 #[(.slice (some ⟨g, 0, none⟩) (m + 1) c3)] := hobb1.set_ 0 _
          have HCU := Lib.hid (HCU0.out.far (p := ⟨w.heap.size + 1, 0, none⟩) (by show g ≠ w.heap.size + 1; omega) (.slice (some ⟨g, 0, none⟩) (m + 1) c3))
          have hT2 := HT1.out.set_ (g := w.heap.size + 1) (.inl rfl) 0 (.slice (some ⟨g, 0, none⟩) (m + 1) c3)
          have hown2 : (W1.setCell ⟨w.heap.size + 1, 0, none⟩ (.slice (some ⟨g, 0, none⟩) (m + 1) c3)).ownsRow (w.heap.size + 2) 38 7 (.slice (some ⟨g, 0, none⟩) (m + 1) c3) (m + 1) (kdF rows m ++ [.int .i64 k2, .int .u64 a2, .int .u64 b2, .int .u64 c2, .int .u64 d2, .string t2, .slice A2 ks2.length cp2]) := by
            refine own_of_last hgb HCU.out hc1 hc2 (by simp [HC3.out]) (by rw [List.length_append, HXL.out]; show m * 7 + 7 = _; omega) ?_
            simp only [Array.toList_setIfInBounds]
            rw [show (m + 1) * 7 = m * 7 + 7 by omega, take_set7 _ _ _ _ _ _ _ (by rw [Array.length_toList, HC3.out]; omega), HTK.out]
          have HS := Lib.hid (T0.push' HML.out hT2 hob2 HEX.out hown2 HA2.out)
          clear hown2 hT2 hob2 HCU HCU0 HT1
          apply L.one (i := 12) rfl (by kernel_rfl) rfl
          unfold stepT
          go_simp
          refine L.done (by kernel_rfl) ?_
          clear hobb1 n0 f0
          generalize (W1.setCell ⟨w.heap.size + 1, 0, none⟩ (.slice (some ⟨g, 0, none⟩) (m + 1) c3)) = W2 at HS ⊢
          (have HS1 : Hid (TuS B0 w #[.int .i64 6, .int .u64 a, .int .u64 b, .int .u64 c, .int .u64 d, .string t, .slice (some ad) ks.length cp] (lessL 6 ks (m + 1)) W2) := by (show TuS _ _ _ _ _; rw [HSN.out]; exact ⟨_, _, _, HS.out⟩)); clear HS; go_wp2; go_roundw; (case rel => exact ⟨m + 1, h2m, by go_num, HS1⟩); (case measure => (simp [intOf]; omega))
        · have n0 := hobb.cell 0
          have fo := hobb.frozen 0
          unfold stepT
          go_simp
          have hob1 : Blk (w3.setCell ⟨w.heap.size + 1, 0, none⟩ (.slice (some ⟨g, 0, none⟩) (m + 1) c3)) (w.heap.size + 1) 36 #[(.slice (some ⟨g, 0, none⟩) (m + 1) c3)] := hobb.set_ 0 _
          have hcu1 := hcur.far (p := ⟨w.heap.size + 1, 0, none⟩) (by show g ≠ w.heap.size + 1; omega) (.slice (some ⟨g, 0, none⟩) (m + 1) c3)
          have hT1 := HT.out.set_ (g := w.heap.size + 1) (.inl rfl) 0 (.slice (some ⟨g, 0, none⟩) (m + 1) c3)
          clear n0 fo hobb hcur
          generalize (w3.setCell ⟨w.heap.size + 1, 0, none⟩ (.slice (some ⟨g, 0, none⟩) (m + 1) c3)) = W1 at hob1 hcu1 hT1 ⊢
          have z0 : W1.cell? ⟨g, m * 7, none⟩ = some o0 := (hcu1.cell _).trans g0
          have z1 : W1.cell? ⟨g, m * 7 + 1, none⟩ = some o1 := (hcu1.cell _).trans g1
          have z2 : W1.cell? ⟨g, m * 7 + 2, none⟩ = some o2 := (hcu1.cell _).trans g2
          have z3 : W1.cell? ⟨g, m * 7 + 3, none⟩ = some o3 := (hcu1.cell _).trans g3
          have z4 : W1.cell? ⟨g, m * 7 + 4, none⟩ = some o4 := (hcu1.cell _).trans g4
          have z5 : W1.cell? ⟨g, m * 7 + 5, none⟩ = some o5 := (hcu1.cell _).trans g5
          have z6 : W1.cell? ⟨g, m * 7 + 6, none⟩ = some o6 := (hcu1.cell _).trans g6
          have f0 := hcu1.frozen (m * 7)
          have f1 := hcu1.frozen (m * 7 + 1)
          have f2 := hcu1.frozen (m * 7 + 2)
          have f3 := hcu1.frozen (m * 7 + 3)
          have f4 := hcu1.frozen (m * 7 + 4)
          have f5 := hcu1.frozen (m * 7 + 5)
          have f6 := hcu1.frozen (m * 7 + 6)
          have hob2 : Blk (((((((W1.setCell ⟨g, m * 7, none⟩ (.int .i64 k2)).setCell ⟨g, m * 7 + 1, none⟩ (.int .u64 a2)).setCell ⟨g, m * 7 + 2, none⟩ (.int .u64 b2)).setCell ⟨g, m * 7 + 3, none⟩ (.int .u64 c2)).setCell ⟨g, m * 7 + 4, none⟩ (.int .u64 d2)).setCell ⟨g, m * 7 + 5, none⟩ (.string t2)).setCell ⟨g, m * 7 + 6, none⟩ (.slice A2 ks2.length cp2)) (w.heap.size + 1) 36 #[(.slice (some ⟨g, 0, none⟩) (m + 1) c3)] := (((((((hob1.far (by show w.heap.size + 1 ≠ g; omega) _).far (by show w.heap.size + 1 ≠ g; omega) _).far (by show w.heap.size + 1 ≠ g; omega) _).far (by show w.heap.size + 1 ≠ g; omega) _).far (by show w.heap.size + 1 ≠ g; omega) _).far (by show w.heap.size + 1 ≠ g; omega) _).far (by show w.heap.size + 1 ≠ g; omega) _)
          have HCU := Lib.hid (((((((hcu1.set_ (m * 7) (.int .i64 k2)).set_ (m * 7 + 1) (.int .u64 a2)).set_ (m * 7 + 2) (.int .u64 b2)).set_ (m * 7 + 3) (.int .u64 c2)).set_ (m * 7 + 4) (.int .u64 d2)).set_ (m * 7 + 5) (.string t2)).set_ (m * 7 + 6) (.slice A2 ks2.length cp2))
          have hT2 : TwoW (w.heap.size + 1) (Value.slice V m cv).ownBlock W0 (((((((W1.setCell ⟨g, m * 7, none⟩ (.int .i64 k2)).setCell ⟨g, m * 7 + 1, none⟩ (.int .u64 a2)).setCell ⟨g, m * 7 + 2, none⟩ (.int .u64 b2)).setCell ⟨g, m * 7 + 3, none⟩ (.int .u64 c2)).setCell ⟨g, m * 7 + 4, none⟩ (.int .u64 d2)).setCell ⟨g, m * 7 + 5, none⟩ (.string t2)).setCell ⟨g, m * 7 + 6, none⟩ (.slice A2 ks2.length cp2)) := (((((((hT1.set_ HGW.out _ _).set_ HGW.out _ _).set_ HGW.out _ _).set_ HGW.out _ _).set_ HGW.out _ _).set_ HGW.out _ _).set_ HGW.out _ _)
          have hown2 : (((((((W1.setCell ⟨g, m * 7, none⟩ (.int .i64 k2)).setCell ⟨g, m * 7 + 1, none⟩ (.int .u64 a2)).setCell ⟨g, m * 7 + 2, none⟩ (.int .u64 b2)).setCell ⟨g, m * 7 + 3, none⟩ (.int .u64 c2)).setCell ⟨g, m * 7 + 4, none⟩ (.int .u64 d2)).setCell ⟨g, m * 7 + 5, none⟩ (.string t2)).setCell ⟨g, m * 7 + 6, none⟩ (.slice A2 ks2.length cp2)).ownsRow (w.heap.size + 2) 38 7 (.slice (some ⟨g, 0, none⟩) (m + 1) c3) (m + 1) (kdF rows m ++ [.int .i64 k2, .int .u64 a2, .int .u64 b2, .int .u64 c2, .int .u64 d2, .string t2, .slice A2 ks2.length cp2]) := by
            refine own_of_last hgb HCU.out hc1 hc2 (by simp [HC3.out]) (by rw [List.length_append, HXL.out]; show m * 7 + 7 = _; omega) ?_
            simp only [Array.toList_setIfInBounds]
            rw [show (m + 1) * 7 = m * 7 + 7 by omega, take_set7 _ _ _ _ _ _ _ (by rw [Array.length_toList, HC3.out]; omega), HTK.out]
          have HS := Lib.hid (T0.push' HML.out hT2 hob2 HEX.out hown2 HA2.out)
          clear hown2 hT2 hob2 HCU hob1 hT1 hcu1 g0 g1 g2 g3 g4 g5 g6
          apply L.one (i := 11) rfl (by kernel_rfl) rfl
          unfold stepT
          go_simp
          refine L.done (by kernel_rfl) ?_
          clear z0 z1 z2 z3 z4 z5 z6 f0 f1 f2 f3 f4 f5 f6
          generalize (((((((W1.setCell ⟨g, m * 7, none⟩ (.int .i64 k2)).setCell ⟨g, m * 7 + 1, none⟩ (.int .u64 a2)).setCell ⟨g, m * 7 + 2, none⟩ (.int .u64 b2)).setCell ⟨g, m * 7 + 3, none⟩ (.int .u64 c2)).setCell ⟨g, m * 7 + 4, none⟩ (.int .u64 d2)).setCell ⟨g, m * 7 + 5, none⟩ (.string t2)).setCell ⟨g, m * 7 + 6, none⟩ (.slice A2 ks2.length cp2)) = W2 at HS ⊢
          (have HS1 : Hid (TuS B0 w #[.int .i64 6, .int .u64 a, .int .u64 b, .int .u64 c, .int .u64 d, .string t, .slice (some ad) ks.length cp] (lessL 6 ks (m + 1)) W2) := by (show TuS _ _ _ _ _; rw [HSN.out]; exact ⟨_, _, _, HS.out⟩)); clear HS; go_wp2; go_roundw; (case rel => exact ⟨m + 1, h2m, by go_num, HS1⟩); (case measure => (simp [intOf]; omega))
      · have q2 : ((ks.length : Int) == 2) = false := by rw [beq_eq_false_iff_ne]; omega
        have hqm : IntKind.i64.wrap ((m : Int) + 1) = (m : Int) + 1 := wrap_i64 _ (by omega) (by omega)
        have hel : (ks.eraseIdx m).length = ks.length - 1 := List.length_eraseIdx_of_lt hjn
        have hsn : lessL 6 ks (m + 1) = lessL 6 ks m ++ [ofN 6 (ks.eraseIdx m)] := by
          rw [lessL_succ]
          unfold lessK
          rw [if_neg h2]
        have HSN := Lib.hid hsn
        have HEL := Lib.hid hel
        have HML := Lib.hid hml
        have h2m : m + 1 ≤ ks.length := by omega
        clear hsn hel h2 hml
        go_upto_region 13 with fail
        have hP := HS.out.p
        refine wp_region_l (TuP w #[.int .i64 6, .int .u64 a, .int .u64 b, .int .u64 c, .int .u64 d, .string t, .slice A ks.length cp]) (fun _ => false) (by kernel_rfl) ?_
        have hD : Below W0.heap.size W0 W0.drew := (Below.refl _ _).drew
        have hC := hP.below' hD
        generalize W0.drew = wd at hC hD ⊢
        apply L.rd (i := 0) rfl (by kernel_rfl) hC rfl
        · intro W hW
          skip
          unfold readW
          go_simp
          first | rfl | exact ⟨rfl, rfl⟩
        first | simp only [Act.put, List.setIfInBounds_toArray, List.set_cons_succ, List.set_cons_zero] | skip
        apply L.rd (i := 1) rfl (by kernel_rfl) hC rfl
        · intro W hW
          skip
          unfold readW
          go_simp
          first | rfl | exact ⟨rfl, rfl⟩
        first | simp only [Act.put, List.setIfInBounds_toArray, List.set_cons_succ, List.set_cons_zero] | skip
        apply L.rd (i := 2) rfl (by kernel_rfl) hC rfl
        · intro W hW
          have n0 := hW.pb.cell 0
          unfold readW
          go_simp
          first | rfl | exact ⟨rfl, rfl⟩
        first | simp only [Act.put, List.setIfInBounds_toArray, List.set_cons_succ, List.set_cons_zero] | skip
        apply L.rd (i := 3) rfl (by kernel_rfl) hC rfl
        · intro W hW
          skip
          unfold readW
          go_simp
          first | rfl | exact ⟨rfl, rfl⟩
        first | simp only [Act.put, List.setIfInBounds_toArray, List.set_cons_succ, List.set_cons_zero] | skip
        apply L.rd (i := 4) rfl (by kernel_rfl) hC rfl
        · intro W hW
          have n0 := hW.pb.cell 6
          unfold readW
          go_simp
          first | rfl | exact ⟨rfl, rfl⟩
        first | simp only [Act.put, List.setIfInBounds_toArray, List.set_cons_succ, List.set_cons_zero] | skip
        apply L.rd (i := 6) rfl (by kernel_rfl) hC rfl
        · intro W hW
          skip
          unfold readW
          go_simp
          first | rfl | exact ⟨rfl, rfl⟩
        first | simp only [Act.put, List.setIfInBounds_toArray, List.set_cons_succ, List.set_cons_zero] | skip
        apply L.rd (i := 7) rfl (by kernel_rfl) hC rfl
        · intro W hW
          skip
          unfold readW
          go_simp
          first | rfl | exact ⟨rfl, rfl⟩
        first | simp only [Act.put, List.setIfInBounds_toArray, List.set_cons_succ, List.set_cons_zero] | skip
        apply L.rd (i := 8) rfl (by kernel_rfl) hC rfl
        · intro W hW
          skip
          unfold readW
          go_simp
          first | rfl | exact ⟨rfl, rfl⟩
        first | simp only [Act.put, List.setIfInBounds_toArray, List.set_cons_succ, List.set_cons_zero] | skip
        apply L.one (i := 5) rfl (by kernel_rfl) rfl
        unfold stepT
        go_simp
        go_at_call 84
        refine (HCLN.out _ hC.bel).mono ?_
        rintro e wn ⟨V2, cq, rfl, hown2, hbn⟩
        obtain ⟨g, cur, rfl, hgb, hcur, hc1, hc2, hc3, htk⟩ : ∃ g cur, V2 = some ⟨g, 0, none⟩ ∧ wd.heap.size ≤ g ∧ Blk wn g 38 cur ∧ ks.length ≤ cq ∧ cq ≤ maxLen ∧ cur.size = cq * 7 ∧ cur.toList.take (ks.length * 7) = kdF row ks.length := own_some hown2 (by omega)
        have hzd := hD.size
        replace hD := hD.trans (hbn.mono hD.size)
        replace hC := hP.below' hD
        clear hbn hown2
        refine ⟨_, rfl, hC, ?_⟩
        first | simp only [Act.put, List.setIfInBounds_toArray, List.set_cons_succ, List.set_cons_zero] | skip
        apply L.one (i := 9) rfl (by kernel_rfl) rfl
        unfold stepT
        go_simp
        go_at_call 98
        refine (deleteE_any g ks.length cq m cur (kdF row ks.length) wn hcur hc3 HXK.out htk HONE.out hjn hc1 (by unfold maxLen at hc2; omega)).mono ?_
        rintro e wm ⟨rfl, cs', hcur', hcs', htk', hgr⟩
        have hzn := hD.size
        replace hD : Below W0.heap.size W0 wm := hD.grown hgr hzn fun q e => by injection e with e; omega
        replace hC := hP.below' hD
        clear hgr hcur htk
        refine ⟨_, rfl, hC, ?_⟩
        first | simp only [Act.put, List.setIfInBounds_toArray, List.set_cons_succ, List.set_cons_zero] | skip
        have hbm := hC.bel
        have hEx : ExF (fun b => b < B0 ∨ (W0.heap.size ≤ b ∧ b < wm.heap.size)) wm.heap.size wm (ofN 6 (ks.eraseIdx m)) (exCells 6 0 0 0 0 ⟨#[]⟩ (some ⟨g, 0, none⟩) (ks.eraseIdx m).length cq) :=
          node_row (rows := fun i => row (if i < m then i else i + 1)) 6 hcur' hcur'.lt (.inr ⟨by omega, hcur'.lt⟩) (by rw [HEL.out]; omega) hc2 (fun i e he => (exF_of (HROW.out _ e (erase_at he)) (hbm.mono hB)).mono (fun b hb => .inl hb) (Nat.le_trans hB hbm.size)) (by rw [HEL.out, htk', kdF_less H7R.out hjn])
        have hws := with_step 6 (some ⟨g, 0, none⟩) cq (ks.eraseIdx m) HS.out hD rfl hEx (by rw [HML.out]; exact hm)
        rw [HEL.out] at hws
        have HWS := Lib.hid hws
        clear hws hEx hcur' hcs' htk' hC hbm hD
        apply L.one (i := 10) rfl (by kernel_rfl) rfl
        unfold stepT
        go_simp
        go_at_call 96
        refine HWS.out.mono ?_
        rintro e wz ⟨rfl, hS2⟩
        have HS1 : Hid (TuS B0 w #[.int .i64 6, .int .u64 a, .int .u64 b, .int .u64 c, .int .u64 d, .string t, .slice A ks.length cp] (lessL 6 ks (m + 1)) wz) := by
          show TuS _ _ _ _ _
          rw [HSN.out]
          exact hS2
        refine ⟨_, rfl, HS1.out.p, ?_⟩
        first | simp only [Act.put, List.setIfInBounds_toArray, List.set_cons_succ, List.set_cons_zero] | skip
        refine L.done (by kernel_rfl) ?_
        clear hS2 HS hpb y6 HWS
        go_wp2
        go_roundw
        case rel => exact ⟨m + 1, h2m, by go_num, HS1⟩
        case measure => simp [intOf]; omega
    · obtain rfl : m = ks.length := by omega
      rename World => ws
      have HT0 := HS
      have y6 := y6
      clear HKID hjn hbel hpb HS y6
      go_wp2
      go_loopw [6] (fun i wr => ∃ q : Nat, (q = 0 ∨ q + 1 ≤ ks.length) ∧ i = .int .i64 ((q : Int) + 1) ∧ Hid (TuS B0 w #[.int .i64 6, .int .u64 a, .int .u64 b, .int .u64 c, .int .u64 d, .string t, .slice A ks.length cp] (lessL 6 ks ks.length ++ swapL 6 ks q) wr)) (fun i _ => ks.length + 1 - (intOf i).toNat)
      case atStart => exact ⟨0, .inl rfl, rfl, by show TuS _ _ _ _ _; have h := HT0.out; simpa [swapL] using h⟩
      case round =>
        clear HT0
        obtain ⟨q, hq, rfl, HS⟩ := hrel
        obtain ⟨W0, hW0⟩ : ∃ W0, W0 = wr := ⟨_, rfl⟩
        subst hW0
        have hP := HS.out.p
        have y0 : W0.cell? ⟨w.heap.size, 0, none⟩ = some (.int .i64 6) := hP.pb.cell 0
        have y6 : W0.cell? ⟨w.heap.size, 6, none⟩ = some (.slice A ks.length cp) := hP.pb.cell 6
        by_cases hqn : q + 1 < ks.length
        · have hqi : (q : Int) + 1 < (ks.length : Int) := by omega
          go_wp2_with fail
          refine (HCLN.out _ hP.bel).mono ?_
          rintro e wn ⟨V2, cq, rfl, hown2, hbn⟩
          obtain ⟨g, cur, rfl, hgb, hcur, hc1, hc2, hc3, htk⟩ := own_some hown2 (by omega)
          have hl0 : cur.toList.length = cq * 7 := by rw [Array.length_toList]; exact hc3
          have hsz0 := hbn.size
          obtain ⟨k1, a1, b1, c1, d1, t1, A1, ln1, cp1, hr1⟩ := Ex.parts _ (HROW.out (q + 1) _ (List.getElem?_eq_getElem hqn))
          obtain ⟨k2, a2, b2, c2, d2, t2, A2, ln2, cp2, hr0⟩ := Ex.parts _ (HROW.out q _ (List.getElem?_eq_getElem (by omega)))
          have hat : ∀ i u v, i < ks.length → u < 7 → (row i)[u]? = some v → ∀ W, Blk W g 38 cur → W.cell? ⟨g, i * 7 + u, none⟩ = some v := fun i u v hi hu hv W hB => by
            rw [hB.cell, ← Array.getElem?_toList, ← hv, ← at_kdF H7R.out hi hu, ← htk, List.getElem?_take_of_lt (by omega)]
          have HAT := Lib.hid hat
          have HTK := Lib.hid htk
          have HR1 := Lib.hid hr1
          have HR0 := Lib.hid hr0
          have hq1l : (q + 1) * 7 + 7 ≤ cq * 7 := by omega
          clear hat htk hr1 hr0 hown2 y0 y6
          go_upto_region 19 with fail
          refine wp_region_l (fun W => Blk W g 38 cur) (fun i => i == 3 || i == 4 || i == 15 || i == 16 || i == 17) (by kernel_rfl) ?_
          have hC := hcur.drew
          have hD : Below W0.heap.size W0 wn.drew := hbn.drew
          generalize wn.drew = wd at hC hD ⊢
          have hq2 : IntKind.i64.wrap (q : Int) = (q : Int) := wrap_i64 _ (by omega) (by omega)
          have hq0l : (q : Int) < (ks.length : Int) := by omega
          apply L.rdt (i := 0) rfl (by kernel_rfl) hC rfl
          · intro W hW
            skip
            unfold readW
            go_simp
            first | rfl | exact ⟨rfl, rfl⟩
          first | simp only [Act.put, List.setIfInBounds_toArray, List.set_cons_succ, List.set_cons_zero] | skip
          apply L.rdt (i := 1) rfl (by kernel_rfl) hC rfl
          · intro W hW
            skip
            unfold readW
            go_simp
            first | rfl | exact ⟨rfl, rfl⟩
          first | simp only [Act.put, List.setIfInBounds_toArray, List.set_cons_succ, List.set_cons_zero] | skip
          apply L.rdt (i := 2) rfl (by kernel_rfl) hC rfl
          · intro W hW
            skip
            unfold readW
            go_simp
            first | rfl | exact ⟨rfl, rfl⟩
          first | simp only [Act.put, List.setIfInBounds_toArray, List.set_cons_succ, List.set_cons_zero] | skip
          apply L.rdl (i := 3) rfl (by kernel_rfl) rfl
          · intro W
            unfold readW
            go_simp
            first | rfl | exact ⟨rfl, rfl⟩
          first | simp only [Act.put, List.setIfInBounds_toArray, List.set_cons_succ, List.set_cons_zero] | skip
          apply L.rdl (i := 4) rfl (by kernel_rfl) rfl
          · intro W
            unfold readW
            go_simp
            first | rfl | exact ⟨rfl, rfl⟩
          first | simp only [Act.put, List.setIfInBounds_toArray, List.set_cons_succ, List.set_cons_zero] | skip
          apply L.rdt (i := 5) rfl (by kernel_rfl) hC rfl
          · intro W hW
            skip
            unfold readW
            go_simp
            first | rfl | exact ⟨rfl, rfl⟩
          first | simp only [Act.put, List.setIfInBounds_toArray, List.set_cons_succ, List.set_cons_zero] | skip
          apply L.rdt (i := 6) rfl (by kernel_rfl) hC rfl
          · intro W hW
            skip
            unfold readW
            go_simp
            first | rfl | exact ⟨rfl, rfl⟩
          first | simp only [Act.put, List.setIfInBounds_toArray, List.set_cons_succ, List.set_cons_zero] | skip
          apply L.rdt (i := 7) rfl (by kernel_rfl) hC rfl
          · intro W hW
            skip
            unfold readW
            go_simp
            first | rfl | exact ⟨rfl, rfl⟩
          first | simp only [Act.put, List.setIfInBounds_toArray, List.set_cons_succ, List.set_cons_zero] | skip
          apply L.rdt (i := 8) rfl (by kernel_rfl) hC rfl
          · intro W hW
            have n0 := HAT.out (q + 1) 0 (.int .i64 k1) hqn (by omega) (by rw [HR1.out]; rfl) W hW; have n1 := HAT.out (q + 1) 1 (.int .u64 a1) hqn (by omega) (by rw [HR1.out]; rfl) W hW; have n2 := HAT.out (q + 1) 2 (.int .u64 b1) hqn (by omega) (by rw [HR1.out]; rfl) W hW; have n3 := HAT.out (q + 1) 3 (.int .u64 c1) hqn (by omega) (by rw [HR1.out]; rfl) W hW; have n4 := HAT.out (q + 1) 4 (.int .u64 d1) hqn (by omega) (by rw [HR1.out]; rfl) W hW; have n5 := HAT.out (q + 1) 5 (.string t1) hqn (by omega) (by rw [HR1.out]; rfl) W hW; have n6 := HAT.out (q + 1) 6 (.slice A1 ln1 cp1) hqn (by omega) (by rw [HR1.out]; rfl) W hW; simp only [Nat.add_zero] at n0
            unfold readW
            go_simp
            first | rfl | exact ⟨rfl, rfl⟩
          first | simp only [Act.put, List.setIfInBounds_toArray, List.set_cons_succ, List.set_cons_zero] | skip
          apply L.rdt (i := 9) rfl (by kernel_rfl) hC rfl
          · intro W hW
            skip
            unfold readW
            go_simp
            first | rfl | exact ⟨rfl, rfl⟩
          first | simp only [Act.put, List.setIfInBounds_toArray, List.set_cons_succ, List.set_cons_zero] | skip
          apply L.rdt (i := 10) rfl (by kernel_rfl) hC rfl
          · intro W hW
            skip
            unfold readW
            go_simp
            first | rfl | exact ⟨rfl, rfl⟩
          first | simp only [Act.put, List.setIfInBounds_toArray, List.set_cons_succ, List.set_cons_zero] | skip
          apply L.rdt (i := 11) rfl (by kernel_rfl) hC rfl
          · intro W hW
            skip
            unfold readW
            go_simp
            first | rfl | exact ⟨rfl, rfl⟩
          first | simp only [Act.put, List.setIfInBounds_toArray, List.set_cons_succ, List.set_cons_zero] | skip
          apply L.rdt (i := 12) rfl (by kernel_rfl) hC rfl
          · intro W hW
            skip
            unfold readW
            go_simp
            first | rfl | exact ⟨rfl, rfl⟩
          first | simp only [Act.put, List.setIfInBounds_toArray, List.set_cons_succ, List.set_cons_zero] | skip
          apply L.rdt (i := 13) rfl (by kernel_rfl) hC rfl
          · intro W hW
            have n0 := HAT.out q 0 (.int .i64 k2) (by omega) (by omega) (by rw [HR0.out]; rfl) W hW; have n1 := HAT.out q 1 (.int .u64 a2) (by omega) (by omega) (by rw [HR0.out]; rfl) W hW; have n2 := HAT.out q 2 (.int .u64 b2) (by omega) (by omega) (by rw [HR0.out]; rfl) W hW; have n3 := HAT.out q 3 (.int .u64 c2) (by omega) (by omega) (by rw [HR0.out]; rfl) W hW; have n4 := HAT.out q 4 (.int .u64 d2) (by omega) (by omega) (by rw [HR0.out]; rfl) W hW; have n5 := HAT.out q 5 (.string t2) (by omega) (by omega) (by rw [HR0.out]; rfl) W hW; have n6 := HAT.out q 6 (.slice A2 ln2 cp2) (by omega) (by omega) (by rw [HR0.out]; rfl) W hW; simp only [Nat.add_zero] at n0
            unfold readW
            go_simp
            first | rfl | exact ⟨rfl, rfl⟩
          first | simp only [Act.put, List.setIfInBounds_toArray, List.set_cons_succ, List.set_cons_zero] | skip
          apply L.rdt (i := 14) rfl (by kernel_rfl) hC rfl
          · intro W hW
            skip
            unfold readW
            go_simp
            first | rfl | exact ⟨rfl, rfl⟩
          first | simp only [Act.put, List.setIfInBounds_toArray, List.set_cons_succ, List.set_cons_zero] | skip
          obtain ⟨cu1, hB1, hL1, hG1⟩ := hC.setCells [.int .i64 k1, .int .u64 a1, .int .u64 b1, .int .u64 c1, .int .u64 d1, .string t1, .slice A1 ln1 cp1] (q * 7) (by rw [hc3]; show q * 7 + 7 ≤ _; omega)
          have z0 := HAT.out q 0 _ (by omega) (by omega) (by rw [HR0.out]; rfl) wd hC
          have z1 := HAT.out q 1 _ (by omega) (by omega) (by rw [HR0.out]; rfl) wd hC
          have z2 := HAT.out q 2 _ (by omega) (by omega) (by rw [HR0.out]; rfl) wd hC
          have z3 := HAT.out q 3 _ (by omega) (by omega) (by rw [HR0.out]; rfl) wd hC
          have z4 := HAT.out q 4 _ (by omega) (by omega) (by rw [HR0.out]; rfl) wd hC
          have z5 := HAT.out q 5 _ (by omega) (by omega) (by rw [HR0.out]; rfl) wd hC
          have z6 := HAT.out q 6 _ (by omega) (by omega) (by rw [HR0.out]; rfl) wd hC
          simp only [Nat.add_zero] at z0
          have f0 := hC.frozen (q * 7)
          have f1 := hC.frozen (q * 7 + 1)
          have f2 := hC.frozen (q * 7 + 2)
          have f3 := hC.frozen (q * 7 + 3)
          have f4 := hC.frozen (q * 7 + 4)
          have f5 := hC.frozen (q * 7 + 5)
          have f6 := hC.frozen (q * 7 + 6)
          have HL1 := Lib.hid hL1
          have HB1 := Lib.hid hB1
          have hD1 : Below W0.heap.size W0 (wd.setCells g (q * 7) [.int .i64 k1, .int .u64 a1, .int .u64 b1, .int .u64 c1, .int .u64 d1, .string t1, .slice A1 ln1 cp1]) := hD.grown hG1 hD.size fun r e => by injection e with e; omega
          have HD1 := Lib.hid hD1
          clear hL1 hB1 hG1 hD1
          apply L.one (i := 15) rfl (by kernel_rfl) rfl
          unfold stepT
          go_simp
          clear z0 z1 z2 z3 z4 z5 z6 f0 f1 f2 f3 f4 f5 f6 hD hC
          change wpAnyL2 _ _ _ _ _ _ _ _ _ (wd.setCells g (q * 7) [.int .i64 k1, .int .u64 a1, .int .u64 b1, .int .u64 c1, .int .u64 d1, .string t1, .slice A1 ln1 cp1])
          generalize wd.setCells g (q * 7) [.int .i64 k1, .int .u64 a1, .int .u64 b1, .int .u64 c1, .int .u64 d1, .string t1, .slice A1 ln1 cp1] = W1 at HB1 HD1 ⊢
          have hs1 : cu1.size = cq * 7 := by
            rw [← Array.length_toList, HL1.out, List.length_append, List.length_append, List.length_take, List.length_drop, hl0]
            show min (q * 7) (cq * 7) + 7 + (cq * 7 - (q * 7 + 7)) = cq * 7
            omega
          obtain ⟨cu2, hB2, hL2, hG2⟩ := HB1.out.setCells [.int .i64 k2, .int .u64 a2, .int .u64 b2, .int .u64 c2, .int .u64 d2, .string t2, .slice A2 ln2 cp2] ((q + 1) * 7) (by rw [hs1]; exact hq1l)
          have hgz : ∀ i, i < 7 → ∃ u0, cu1[(q + 1) * 7 + i]? = some u0 := fun i hi => ⟨_, Array.getElem?_eq_getElem (by rw [hs1]; omega)⟩
          obtain ⟨o0, g0⟩ := hgz 0 (by omega)
          obtain ⟨o1, g1⟩ := hgz 1 (by omega)
          obtain ⟨o2, g2⟩ := hgz 2 (by omega)
          obtain ⟨o3, g3⟩ := hgz 3 (by omega)
          obtain ⟨o4, g4⟩ := hgz 4 (by omega)
          obtain ⟨o5, g5⟩ := hgz 5 (by omega)
          obtain ⟨o6, g6⟩ := hgz 6 (by omega)
          have z0 : W1.cell? ⟨g, (q + 1) * 7, none⟩ = some o0 := (HB1.out.cell _).trans g0
          have z1 : W1.cell? ⟨g, (q + 1) * 7 + 1, none⟩ = some o1 := (HB1.out.cell _).trans g1
          have z2 : W1.cell? ⟨g, (q + 1) * 7 + 2, none⟩ = some o2 := (HB1.out.cell _).trans g2
          have z3 : W1.cell? ⟨g, (q + 1) * 7 + 3, none⟩ = some o3 := (HB1.out.cell _).trans g3
          have z4 : W1.cell? ⟨g, (q + 1) * 7 + 4, none⟩ = some o4 := (HB1.out.cell _).trans g4
          have z5 : W1.cell? ⟨g, (q + 1) * 7 + 5, none⟩ = some o5 := (HB1.out.cell _).trans g5
          have z6 : W1.cell? ⟨g, (q + 1) * 7 + 6, none⟩ = some o6 := (HB1.out.cell _).trans g6
          have f0 := HB1.out.frozen ((q + 1) * 7)
          have f1 := HB1.out.frozen ((q + 1) * 7 + 1)
          have f2 := HB1.out.frozen ((q + 1) * 7 + 2)
          have f3 := HB1.out.frozen ((q + 1) * 7 + 3)
          have f4 := HB1.out.frozen ((q + 1) * 7 + 4)
          have f5 := HB1.out.frozen ((q + 1) * 7 + 5)
          have f6 := HB1.out.frozen ((q + 1) * 7 + 6)
          have hD2 : Below W0.heap.size W0 (W1.setCells g ((q + 1) * 7) [.int .i64 k2, .int .u64 a2, .int .u64 b2, .int .u64 c2, .int .u64 d2, .string t2, .slice A2 ln2 cp2]) := HD1.out.grown hG2 HD1.out.size fun r e => by injection e with e; omega
          have HL2 := Lib.hid hL2
          have HB2 := Lib.hid hB2
          have HD2 := Lib.hid hD2
          clear hL2 hB2 hG2 hD2 g0 g1 g2 g3 g4 g5 g6 hgz
          apply L.rdl (i := 16) rfl (by kernel_rfl) rfl
          · intro W
            unfold readW
            go_simp
            first | rfl | exact ⟨rfl, rfl⟩
          first | simp only [Act.put, List.setIfInBounds_toArray, List.set_cons_succ, List.set_cons_zero] | skip
          apply L.one (i := 17) rfl (by kernel_rfl) rfl
          unfold stepT
          go_simp
          clear z0 z1 z2 z3 z4 z5 z6 f0 f1 f2 f3 f4 f5 f6 HB1 HD1
          refine L.done (by kernel_rfl) ?_
          change Exit.then _ _ _ _ (W1.setCells g ((q + 1) * 7) [.int .i64 k2, .int .u64 a2, .int .u64 b2, .int .u64 c2, .int .u64 d2, .string t2, .slice A2 ln2 cp2])
          generalize W1.setCells g ((q + 1) * 7) [.int .i64 k2, .int .u64 a2, .int .u64 b2, .int .u64 c2, .int .u64 d2, .string t2, .slice A2 ln2 cp2] = W2 at HB2 HD2 ⊢
          have hP2 := hP.below' HD2.out
          have y0 : W2.cell? ⟨w.heap.size, 0, none⟩ = some (.int .i64 6) := hP2.pb.cell 0
          have hgW : W0.heap.size ≤ g := hgb
          have hEx : ExF (fun b => b < B0 ∨ (W0.heap.size ≤ b ∧ b < W2.heap.size)) W2.heap.size W2 (ofN 6 (swapK ks q)) (exCells 6 0 0 0 0 ⟨#[]⟩ (some ⟨g, 0, none⟩) (swapK ks q).length cq) :=
            node_row (rows := swapR row q) 6 HB2.out HB2.out.lt (.inr ⟨hgW, HB2.out.lt⟩) (by rw [swapK_len]; exact hc1) hc2 (fun i e he => (exF_of (HROW.out _ e (swap_at hqn he)) (hP2.bel.mono hB)).mono (fun b hb => .inl hb) (Nat.le_trans hB hP2.bel.size))
              (by rw [swapK_len, HL2.out, HL1.out]; exact swap_row H7R.out hqn (by rw [hl0]; omega) HTK.out HR0.out HR1.out)
          have hws := with_step 6 (some ⟨g, 0, none⟩) cq (swapK ks q) HS.out HD2.out rfl hEx (by rw [List.length_append, lessL_len, swapL_len]; omega)
          rw [swapK_len] at hws
          have hsn : lessL 6 ks ks.length ++ swapL 6 ks (q + 1) = lessL 6 ks ks.length ++ swapL 6 ks q ++ [ofN 6 (swapK ks q)] := by rw [swapL_succ, List.append_assoc]
          have HSN := Lib.hid hsn
          have HWS := Lib.hid hws
          clear hws hEx hP2 HL1 HL2 HB2 HD2 HTK HR0 HR1 HAT hsn HS
          go_wp2_with fail
          refine HWS.out.mono ?_
          rintro e wz ⟨rfl, hS2⟩
          have HS1 : Hid (TuS B0 w #[.int .i64 6, .int .u64 a, .int .u64 b, .int .u64 c, .int .u64 d, .string t, .slice A ks.length cp] (lessL 6 ks ks.length ++ swapL 6 ks (q + 1)) wz) := by
            show TuS _ _ _ _ _
            rw [HSN.out]
            exact hS2
          clear hS2 HWS
          go_wp2
          go_roundw
          case rel => exact ⟨q + 1, .inr hqn, by go_num, HS1⟩
          case measure => simp [intOf]; omega
        · have hqi : ¬ ((q : Int) + 1 < (ks.length : Int)) := by omega
          have hqe : q = ks.length - 1 := by omega
          obtain ⟨es, hes⟩ : ∃ es, lessL 6 ks ks.length ++ swapL 6 ks q = es := ⟨_, rfl⟩
          rw [hes] at HS
          obtain ⟨V, cv, rows, T⟩ := HS.out
          have n9 := T.ob.cell 0
          simp at n9
          have HF := Lib.hid (HQ.out es _ _ _ _ (by rw [← hes, hqe]) T)
          clear T HS HCLN HROW H7R HONE HAN HXK hP HQ hes hqe
          go_wp2
          first | exact HF.out | (go_ret; exact HF.out)
end Go.Proofs.Ytefechceoeeonaa

/- mutate.turns, mutate.all. -/
namespace Go.Proofs.Ytefechceoeeonaa
open Go.RowKit Go.Maps

theorem less_list (k : Int) (ks : List Ex) : lessL k ks ks.length = (List.range ks.length).map (lessK k ks) := rfl
/-- which nodes have kids -/
def kidsOk : Ex → Prop
  | .mk k _ _ _ _ _ ks => (k = 7 ∨ k = 9) → 0 < ks.length
theorem turns_any {k a b c d : Int} {t : ByteArray} {ks : List Ex} {A : Option Addr} {cp B0 : Nat} {w : World} (hB : B0 ≤ w.heap.size) (hE : ExIs w B0 (.mk k a b c d t ks) (exCells k a b c d t A ks.length cp)) (h8 : ks.length ≤ 8) (hk : (k = 7 ∨ k = 9) → 0 < ks.length) :
    Calls Try.prog 83 #[.agg #[.int .i64 k, .int .u64 a, .int .u64 b, .int .u64 c, .int .u64 d, .string t, .slice A ks.length cp]] w (OutsQ B0 (turnsE (.mk k a b c d t ks)) w) := by
  by_cases h2 : k = 2
  · subst h2
    rw [turnsE, if_pos rfl]
    exact turns_set B0 a b c d t A ks.length cp w hB
  by_cases h5 : k = 5
  · subst h5
    rw [turnsE, if_neg h2, if_pos (.inl rfl), if_neg (by omega), List.append_nil]
    exact turns_seq B0 a b c d t ks A cp w hB hE h8
  by_cases h6 : k = 6
  · subst h6
    rw [turnsE, if_neg h2, if_pos (.inr rfl), if_pos rfl]
    exact turns_alt B0 a b c d t ks A cp w hB hE h8
  by_cases h79 : k = 7 ∨ k = 9
  · rw [turnsE, if_neg h2, if_neg (by omega), if_pos h79]
    exact turns_star B0 k a b c d t ks A cp w hB h79 hE (hk h79)
  by_cases h8' : k = 8
  · subst h8'
    rw [turnsE, if_neg h2, if_neg (by omega), if_neg h79, if_pos rfl]
    exact turns_plus B0 a b c d t ks A cp w hB hE
  by_cases h10 : k = 10
  · subst h10
    rw [turnsE, if_neg h2, if_neg (by omega), if_neg h79, if_neg h8', if_pos rfl]
    exact turns_and B0 a b c d t ks A cp w hB hE
  by_cases h11 : k = 11
  · subst h11
    rw [turnsE, if_neg h2, if_neg (by omega), if_neg h79, if_neg h8', if_neg h10, if_pos rfl]
    exact turns_not B0 a b c d t ks A cp w hB hE
  rw [turnsE, if_neg h2, if_neg (by omega), if_neg h79, if_neg h8', if_neg h10, if_neg h11]
  exact turns_other B0 k a b c d t A ks.length cp w h2 h5 h6 (by omega) h8' (by omega) h10 h11
/-- an expression all of whose nodes are so -/
inductive K8x : Ex → Prop
  | mk (k a b c d : Int) (t : ByteArray) (ks : List Ex) : ks.length ≤ 8 → ((k = 7 ∨ k = 9) → 0 < ks.length) → (∀ e ∈ ks, K8x e) → K8x (.mk k a b c d t ks)
/-- with another kid -/
theorem row_put {l : List Value} {rows : Nat → List Value} {n i : Nat} {r : List Value} (h7 : ∀ i, i < n → (rows i).length = 7) (hi : i < n) (hl : n * 7 ≤ l.length) (ht : l.take (n * 7) = kdF rows n) (hr : r.length = 7) :
    (l.take (i * 7) ++ r ++ l.drop (i * 7 + 7)).take (n * 7) = kdF (fun q => if q = i then r else rows q) n := by
  have hl1 : (l.take (i * 7) ++ r ++ l.drop (i * 7 + 7)).length = l.length := by simp only [List.length_append, List.length_take, List.length_drop, hr]; omega
  have hat : ∀ q u, q < n → u < 7 → l[q * 7 + u]? = (rows q)[u]? := fun q u hq hu => by
    rw [← at_kdF h7 hq hu, ← ht, List.getElem?_take_of_lt (by omega)]
  refine kdF_of (fun q hq => ?_) ?_ fun q u hq hu => ?_
  · split
    · exact hr
    · exact h7 q hq
  · rw [List.length_take, hl1]; omega
  · rw [List.getElem?_take_of_lt (by omega)]
    have p1 := put_at (l := l) (vs := r) (o := i * 7) (m := q * 7 + u) (by rw [hr]; omega)
    rw [hr] at p1
    rw [p1]
    by_cases hq0 : q = i
    · subst hq0
      rw [if_neg (by omega), if_pos (by omega), if_pos rfl]
      congr 1
      omega
    · rw [if_neg hq0, ← hat q u hq hu]
      rcases Nat.lt_or_ge q i with hlt | hge
      · rw [if_pos (by omega)]
      · rw [if_neg (by omega), if_neg (by omega)]
theorem set_at {ks : List Ex} {i q : Nat} {x e : Ex} (h : (ks.set i x)[q]? = some e) : (q = i ∧ e = x) ∨ (q ≠ i ∧ ks[q]? = some e) := by
  rw [List.getElem?_set] at h
  split at h
  · rename_i hi
    split at h
    · injection h with h; exact .inl ⟨hi.symm, h.symm⟩
    · cases h
  · rename_i hi
    exact .inr ⟨fun e => hi e.symm, h⟩
end Go.Proofs.Ytefechceoeeonaa

/- mutate.all. -/
namespace Go.Proofs.Ytefechceoeeonaa
open Go.RowKit Go.Maps

section
variable {N : Nat → Prop} {base : Nat} {W W' : World} {es : List Ex} {V : Option Addr} {c : Nat} {rows : Nat → List Value}
/-- one more, appended to the row itself -/
theorem Outs.app {V' : Option Addr} {c' : Nat} {x : Ex} {r : List Value} (h : Outs N base W es V c rows) (hE : ExF (fun b => b < W.heap.size ∧ ¬ N b ∧ some b ≠ (Value.slice V es.length c).ownBlock) W.heap.size W x r)
    (hown : W'.ownsRow base 38 7 (.slice V' (es.length + 1) c') (es.length + 1) (kdF rows es.length ++ r)) (hg : W.grownBy W' (Value.slice V es.length c).ownBlock) (hat : (Value.slice V' (es.length + 1) c').ownBlock = (Value.slice V es.length c).ownBlock ∨ (Value.slice V' (es.length + 1) c').ownBlock = some W.heap.size) :
    Outs N base W' (es ++ [x]) V' c' (fun i => if i = es.length then r else rows i) := by
  have hT : TwoW W.heap.size (Value.slice V es.length c).ownBlock W W' := (TwoW.of_below (Below.refl _ W)).grown hg
  have h' : Outs (fun b => N b ∨ b = W.heap.size) base W es V c rows := ⟨h.own, fun i e he => (h.kid i e he).mono (fun b hb => ⟨hb.1, fun hn => hn.elim hb.2.1 fun e => by have := hb.1; omega, hb.2.2⟩) (Nat.le_refl _)⟩
  exact (h'.push hT (.inr rfl) (hE.mono (fun b hb => ⟨hb.1, fun hn => hn.elim hb.2.1 fun e => by have := hb.1; omega, hb.2.2⟩) (Nat.le_refl _)) hown (hat.imp id fun h => ⟨_, h, Nat.le_refl _⟩)).less fun b hb => .inl hb
end
theorem TwoW.grown' {ob : Nat} {r r' : Option Nat} {a w w' : World} (h : TwoW ob r a w) (hg : w.grownBy w' r') (hr : r' = r ∨ ∃ z, r' = some z ∧ a.heap.size ≤ z) : TwoW ob r a w' :=
  ⟨hg.os.trans h.os, hg.tape.trans h.tape, hg.output.trans h.output, Nat.le_trans h.size hg.size, fun b hb h1 h2 => (hg.block b (Nat.lt_of_lt_of_le hb h.size) (by
    rcases hr with rfl | ⟨z, rfl, hz⟩
    · exact h2
    · intro e; injection e with e; omega)).trans (h.block b hb h1 h2)⟩
theorem TwoW.more {ob : Nat} {r : Option Nat} {a w w' : World} (h : TwoW ob r a w) (hb : Below w.heap.size w w') : TwoW ob r a w' := h.grown' (grown_of_below hb none |> fun g => ⟨g.os, g.tape, g.output, g.size, fun b h1 _ => hb.block b h1⟩) (.inl rfl)
theorem allEs_app (k : Int) (full : List Ex) : ∀ (l l' : List Ex) (i : Nat), allEs k full (l ++ l') i = allEs k full l i ++ allEs k full l' (i + l.length)
  | [], l', i => by simp [allEs]
  | e :: l, l', i => by
    rw [List.cons_append, allEs, allEs, allEs_app k full l l' (i + 1), List.append_assoc, List.length_cons, show i + 1 + l.length = i + (l.length + 1) by omega]
theorem allEs_snoc {k : Int} {ks : List Ex} {m : Nat} {x : Ex} (h : ks[m]? = some x) : allEs k ks (ks.take (m + 1)) 0 = allEs k ks (ks.take m) 0 ++ (allE x).map fun y => ofN k (ks.set m y) := by
  rw [take_succ_of h, allEs_app, List.length_take, Nat.min_eq_left (Nat.le_of_lt (getElem?_lt h)), Nat.zero_add]
  simp [allEs]
theorem all_pre {k a b c d : Int} {t : ByteArray} {ks : List Ex} {m q : Nat} {x : Ex} (h : ks[m]? = some x) : (turnsE (.mk k a b c d t ks) ++ allEs k ks (ks.take m) 0 ++ ((allE x).take q).map fun y => ofN k (ks.set m y)).length ≤ (allE (.mk k a b c d t ks)).length := by
  have h1 := allEs_snoc (k := k) h
  have h2 := allEs_app k ks (ks.take (m + 1)) (ks.drop (m + 1)) 0
  rw [List.take_append_drop, h1] at h2
  rw [allE, h2]
  simp only [List.length_append, List.length_map, List.length_take]
  omega
/-- all at work: the box of what came in, and what is made -/
structure AlS (B0 : Nat) (w : World) (pc : Array Value) (es : List Ex) (V : Option Addr) (c : Nat) (rows : Nat → List Value) (W : World) : Prop where
  bel : Below w.heap.size w W
  pb : Blk W w.heap.size 38 pc
  outs : Outs (fun b => B0 ≤ b ∧ b < w.heap.size + 1) (w.heap.size + 1) W es V c rows
theorem AlS.below {B0 : Nat} {w W W' : World} {pc : Array Value} {es : List Ex} {V : Option Addr} {c : Nat} {rows : Nat → List Value} (h : AlS B0 w pc es V c rows W) (hb : Below W.heap.size W W') : AlS B0 w pc es V c rows W' := ⟨h.bel.trans (hb.mono h.bel.size), h.pb.below hb h.pb.lt, h.outs.below hb⟩
/-- so far: all turns of the first kids -/
def AlM (B0 : Nat) (w : World) (pc : Array Value) (es : List Ex) (l : Nat) (V : Option Addr) (c : Nat) (W : World) : Prop := ∃ rows, es.length = l ∧ AlS B0 w pc es V c rows W
/-- and since the kid's turns were made nothing else is other -/
def AlQ (B0 : Nat) (w w5 : World) (r0 : Option Nat) (pc : Array Value) (es : List Ex) (l : Nat) (V : Option Addr) (c : Nat) (W : World) : Prop := AlM B0 w pc es l V c W ∧ TwoW w5.heap.size r0 w5 W ∧ ((Value.slice V l c).ownBlock = r0 ∨ ∃ z, (Value.slice V l c).ownBlock = some z ∧ w5.heap.size ≤ z)

theorem nodes_kid : ∀ {ks : List Ex} {e : Ex}, e ∈ ks → nodes e ≤ nodesAll ks
  | [], _, h => by cases h
  | x :: ks, e, h => by
    rw [nodesAll]
    rcases List.mem_cons.1 h with rfl | h
    · omega
    · have := nodes_kid h
      omega
theorem AlM.app {B0 l : Nat} {w W W' : World} {pc : Array Value} {es : List Ex} {x : Ex} {r : List Value} {V V' : Option Addr} {cv c' : Nat} {rows : Nat → List Value} (hl : es.length = l) (h : AlS B0 w pc es V cv rows W)
    (hE : ExF (fun b => b < W.heap.size ∧ ¬ (B0 ≤ b ∧ b < w.heap.size + 1) ∧ some b ≠ (Value.slice V l cv).ownBlock) W.heap.size W x r)
    (hown : W'.ownsRow (w.heap.size + 1) 38 7 (.slice V' (l + 1) c') (l + 1) (kdF rows l ++ r)) (hg : W.grownBy W' (Value.slice V l cv).ownBlock) (hat : (Value.slice V' (l + 1) c').ownBlock = (Value.slice V l cv).ownBlock ∨ (Value.slice V' (l + 1) c').ownBlock = some W.heap.size) :
    AlM B0 w pc (es ++ [x]) (l + 1) V' c' W' := by
  subst hl
  exact ⟨_, by simp, below_app h.bel h.outs.own hg h.bel.size (by omega), h.pb.grown hg (own_ne h.outs.own (by omega)), h.outs.app hE hown hg hat⟩

set_option maxRecDepth 100000 in
set_option maxHeartbeats 16000000 in
theorem all_any (e : Ex) : K8x e → nodes e ≤ 1000 → ∀ (B0 : Nat) (cs : List Value) (w : World), B0 ≤ w.heap.size → ExIs w B0 e cs → Calls Try.prog 58 #[.agg cs.toArray] w (OutsQ B0 (allE e) w) := by
  refine Ex.ind (P := fun e => K8x e → nodes e ≤ 1000 → ∀ (B0 : Nat) (cs : List Value) (w : World), B0 ≤ w.heap.size → ExIs w B0 e cs → Calls Try.prog 58 #[.agg cs.toArray] w (OutsQ B0 (allE e) w)) ?_ e
  intro k a b c d t ks ih h8 hnod B0 cs w hB hE
  cases h8 with
  | mk _ _ _ _ _ _ _ hk8 hk79 h8k =>
  obtain ⟨htl, A, cp, rfl, hkc, hcm, hnil⟩ := hE.shape
  obtain ⟨i0, hi0, hz0, hz1, hz2⟩ := info_parts expr_info
  obtain ⟨row, hrd, hrow⟩ := kids_reads hE
  have h7r : ∀ i, i < ks.length → (row i).length = 7 := fun i hi => ex_len (hrow i _ (List.getElem?_eq_getElem hi))
  have hones := kdF_ones hrow _ (Nat.le_refl _)
  have hcln := fun W (hW : Below w.heap.size w W) => cloneE_any A ks.length cp (kdF row ks.length) W.heap.size W ((hrd.below (hW.mono hB)).more (Nat.le_trans hB hW.size)) hones (Nat.le_refl _) hnil (by omega)
  have htu := fun W (hW : Below w.heap.size w W) => turns_any (k := k) (a := a) (b := b) (c := c) (d := d) (t := t) (A := A) (cp := cp) (Nat.le_trans hB hW.size) (hE.keep (Nat.le_refl _) fun p hp => (hW.mono hB).cell hp) hk8 hk79
  have hcall : ∀ (j : Nat) (k' a' b' c' d' : Int) (t' : ByteArray) (ks' : List Ex) (A' : Option Addr) (cp' : Nat) (W : World), Below w.heap.size w W → ks[j]? = some (.mk k' a' b' c' d' t' ks') → ExIs w B0 (.mk k' a' b' c' d' t' ks') (exCells k' a' b' c' d' t' A' ks'.length cp') →
      Calls Try.prog 58 #[.agg #[.int .i64 k', .int .u64 a', .int .u64 b', .int .u64 c', .int .u64 d', .string t', .slice A' ks'.length cp']] W (OutsQ B0 (allE (.mk k' a' b' c' d' t' ks')) W) := fun j k' a' b' c' d' t' ks' A' cp' W hW hej hx =>
    ih _ (List.mem_of_getElem? hej) (h8k _ (List.mem_of_getElem? hej)) (by
      have h1 := nodes_kid (List.mem_of_getElem? hej)
      have h2 : nodes (.mk k a b c d t ks) = 1 + nodesAll ks := by rw [nodes]
      omega) B0 _ W (Nat.le_trans hB hW.size) (hx.keep (Nat.le_refl _) fun p hp => (hW.mono hB).cell hp)
  have hall : ∀ m q x, ks[m]? = some x → (turnsE (.mk k a b c d t ks) ++ allEs k ks (ks.take m) 0 ++ ((allE x).take q).map fun y => ofN k (ks.set m y)).length ≤ 3000 := fun m q x hx => by
    have h1 := all_pre (k := k) (a := a) (b := b) (c := c) (d := d) (t := t) (q := q) hx
    have h2 := all_len (.mk k a b c d t ks)
    omega
  have HC := Lib.hid hcall
  have HE := Lib.hid hE
  have HT := Lib.hid htu
  have HCLN := Lib.hid hcln
  have HROW := Lib.hid hrow
  have H7R := Lib.hid h7r
  have HALL := Lib.hid hall
  have HQ : Hid (∀ l V cc W, AlM B0 w #[.int .i64 k, .int .u64 a, .int .u64 b, .int .u64 c, .int .u64 d, .string t, .slice A ks.length cp] (turnsE (.mk k a b c d t ks) ++ allEs k ks (ks.take ks.length) 0) l V cc W → OutsQ B0 (allE (.mk k a b c d t ks)) w (.returned (.slice V l cc)) W) := fun l V cc W h => by
    obtain ⟨rows, hl, h⟩ := h
    rw [List.take_length, ← allE] at h hl
    subst hl
    exact ⟨h.bel, V, cc, rows, rfl, (h.outs.own_base (by omega)).less fun b hb => ⟨hb.1, by omega⟩⟩
  generalize OutsQ B0 (allE (.mk k a b c d t ks)) w = Q at HQ ⊢
  clear ih h8k hcall hE htu hcln hrow h7r hall hrd hones hk79 hnil
  unfold exCells
  unfold maxLen at hcm
  go_enter Try.func58, Try.ntmps58
  go_wp2_with fail
  have hb0 : Below w.heap.size w (w.alloc (.cells #[.int .i64 k, .int .u64 a, .int .u64 b, .int .u64 c, .int .u64 d, .string t, .slice A ks.length cp] 38)) := (Below.refl _ w).alloc (Nat.le_refl _) _
  have hpb0 : Blk (w.alloc (.cells #[.int .i64 k, .int .u64 a, .int .u64 b, .int .u64 c, .int .u64 d, .string t, .slice A ks.length cp] 38)) w.heap.size 38 #[.int .i64 k, .int .u64 a, .int .u64 b, .int .u64 c, .int .u64 d, .string t, .slice A ks.length cp] := blk_at rfl
  have hsz0 : (w.alloc (.cells #[.int .i64 k, .int .u64 a, .int .u64 b, .int .u64 c, .int .u64 d, .string t, .slice A ks.length cp] 38)).heap.size = w.heap.size + 1 := by simp
  refine (HT.out _ hb0).mono ?_
  rintro e w1 ⟨hb1, V0, cv0, rows0, rfl, hO⟩
  rw [hsz0] at hO
  have hA0 : AlM B0 w #[.int .i64 k, .int .u64 a, .int .u64 b, .int .u64 c, .int .u64 d, .string t, .slice A ks.length cp] (turnsE (.mk k a b c d t ks) ++ allEs k ks (ks.take 0) 0) (turnsE (.mk k a b c d t ks)).length V0 cv0 w1 :=
    ⟨rows0, by simp [allEs], hb0.trans (hb1.mono (by omega)), hpb0.below hb1 hpb0.lt, by simpa [allEs] using hO⟩
  have HA0 := Lib.hid hA0
  have n6 : w1.cell? ⟨w.heap.size, 6, none⟩ = some (.slice A ks.length cp) := (hpb0.below hb1 hpb0.lt).cell 6
  clear hA0 hO hb1 hpb0 hb0 hsz0
  generalize (turnsE (.mk k a b c d t ks)).length = l0 at HA0 ⊢
  go_wp2
  clear n6
  go_loopw [3, 14] (fun v i wr => ∃ (m l : Nat) (V : Option Addr) (cv : Nat), m ≤ ks.length ∧ i = .int .i64 m ∧ v = .slice V l cv ∧ Hid (AlM B0 w #[.int .i64 k, .int .u64 a, .int .u64 b, .int .u64 c, .int .u64 d, .string t, .slice A ks.length cp] (turnsE (.mk k a b c d t ks) ++ allEs k ks (ks.take m) 0) l V cv wr)) (fun _ i _ => ks.length - (intOf i).toNat)
  case atStart => exact ⟨0, _, _, _, by omega, rfl, rfl, HA0⟩
  case round =>
    clear HA0
    obtain ⟨m, l, V, cv, hm, rfl, rfl, HA⟩ := hrel
    by_cases hmn : m < ks.length
    · obtain ⟨rows, hlen, hS0⟩ := HA.out
      have hbw := hS0.bel
      have hzw := hbw.size
      have hpl := hS0.pb.lt
      obtain ⟨ad, k', a', b', c', d', t', ks', A', cp', rfl, hab, hej, hx, hS⟩ := HE.out.kid hmn
      have hk := fun (q : Addr) (hq : q.block = (ad.add (m * 7)).block) => hbw.cell (p := q) (by rw [hq, add_block]; omega)
      have y0 := (hk _ rfl).trans hS.c0
      have y1 := (hk ⟨_, _, none⟩ rfl).trans hS.c1
      have y2 := (hk ⟨_, _, none⟩ rfl).trans hS.c2
      have y3 := (hk ⟨_, _, none⟩ rfl).trans hS.c3
      have y4 := (hk ⟨_, _, none⟩ rfl).trans hS.c4
      have y5 := (hk ⟨_, _, none⟩ rfl).trans hS.c5
      have y6 := (hk ⟨_, _, none⟩ rfl).trans hS.c6
      have had1 : ad.block < wr.heap.size := by omega
      have hjl : (m : Int) < (ks.length : Int) := by omega
      have hba := hbw.alloc hzw (.cells #[.int .i64 k', .int .u64 a', .int .u64 b', .int .u64 c', .int .u64 d', .string t', .slice A' ks'.length cp'] 38)
      have hSa := hS0.below ((Below.refl _ wr).alloc (Nat.le_refl _) (.cells #[.int .i64 k', .int .u64 a', .int .u64 b', .int .u64 c', .int .u64 d', .string t', .slice A' ks'.length cp'] 38))
      have hkb : Blk (wr.alloc (.cells #[.int .i64 k', .int .u64 a', .int .u64 b', .int .u64 c', .int .u64 d', .string t', .slice A' ks'.length cp'] 38)) wr.heap.size 38 #[.int .i64 k', .int .u64 a', .int .u64 b', .int .u64 c', .int .u64 d', .string t', .slice A' ks'.length cp'] := blk_at rfl
      have hsz : (wr.alloc (.cells #[.int .i64 k', .int .u64 a', .int .u64 b', .int .u64 c', .int .u64 d', .string t', .slice A' ks'.length cp'] 38)).heap.size = wr.heap.size + 1 := by simp
      have hcl := HC.out m k' a' b' c' d' t' ks' A' cp' _ hba hej hx
      have hold := hS0.outs.old
      obtain ⟨X, hX⟩ : ∃ X, allE (.mk k' a' b' c' d' t' ks') = X := ⟨_, rfl⟩
      rw [hX] at hcl
      have hallm := fun q => HALL.out m q _ hej
      have hsnoc := allEs_snoc (k := k) hej
      rw [hX] at hsnoc
      simp only [hX] at hallm
      have HCL := Lib.hid hcl
      have HALM := Lib.hid hallm
      have HSNO := Lib.hid hsnoc
      have HSA := Lib.hid hSa
      have HOLD := Lib.hid hold
      have HLEN := Lib.hid hlen
      clear hcl hallm hsnoc hold hS hx hej hX HE HC HT hk hSa hS0 HA hlen
      go_upto_region 5 with fail
      clear y0 y1 y2 y3 y4 y5 y6
      generalize (wr.alloc (.cells #[.int .i64 k', .int .u64 a', .int .u64 b', .int .u64 c', .int .u64 d', .string t', .slice A' ks'.length cp'] 38)) = wk at hba HSA hkb hsz HCL ⊢
      have y0 := hkb.cell 0
      have y1 := hkb.cell 1
      have y2 := hkb.cell 2
      have y3 := hkb.cell 3
      have y4 := hkb.cell 4
      have y5 := hkb.cell 5
      have y6 := hkb.cell 6
      simp at y0 y1 y2 y3 y4 y5 y6
      go_wp2_with fail
      refine HCL.out.mono ?_
      rintro e w5 ⟨hb5, Vx, cx, rx, rfl, hOX⟩
      obtain ⟨r0, hr0⟩ : ∃ r0, (Value.slice V l cv).ownBlock = r0 := ⟨_, rfl⟩
      have hAQ : AlQ B0 w w5 r0 #[.int .i64 k, .int .u64 a, .int .u64 b, .int .u64 c, .int .u64 d, .string t, .slice (some ad) ks.length cp] (turnsE (.mk k a b c d t ks) ++ allEs k ks (ks.take m) 0 ++ (X.take 0).map fun y => ofN k (ks.set m y)) l V cv w5 := by
        refine ⟨⟨rows, by rw [List.take_zero, List.map_nil, List.append_nil]; exact HLEN.out, ?_⟩, TwoW.of_below (Below.refl _ _), .inl hr0⟩
        rw [List.take_zero, List.map_nil, List.append_nil]
        exact HSA.out.below hb5
      have hold2 : ∀ q, r0 = some q → w.heap.size + 1 ≤ q ∧ q < wk.heap.size := fun q hq => by
        have h := HOLD.out q
        have h2 := HSA.out.outs.own.lt q
        rw [HLEN.out, hr0] at h h2
        exact ⟨(h2 hq).1, by have := h hq; omega⟩
      have hz5 := hb5.size
      have HAQ := Lib.hid hAQ
      have HOX := Lib.hid hOX
      have HOLD2 := Lib.hid hold2
      have hown := hOX.own
      have hX300 : X.length ≤ 3000 := by
        have h := HALM.out X.length
        rw [List.take_length, List.length_append, List.length_map] at h
        omega
      have hwk : w.heap.size + 1 ≤ wk.heap.size := by omega
      clear hAQ hOX hold2 hr0 hb5 hkb y0 y1 y2 y3 y4 y5 y6 HCL HSA HOLD HLEN hown
      obtain ⟨nx, hnx⟩ : ∃ nx, X.length = nx := ⟨_, rfl⟩
      rw [hnx] at hX300 ⊢
      have HNX := Lib.hid hnx
      clear hnx
      rename World => wk5
      go_wp2
      go_loopw [3, 22] (fun v i wx => ∃ (q l : Nat) (V : Option Addr) (cv : Nat), q ≤ nx ∧ i = .int .i64 q ∧ v = .slice V l cv ∧ Hid (AlQ B0 w wk5 r0 #[.int .i64 k, .int .u64 a, .int .u64 b, .int .u64 c, .int .u64 d, .string t, .slice (some ad) ks.length cp] (turnsE (.mk k a b c d t ks) ++ allEs k ks (ks.take m) 0 ++ (X.take q).map fun y => ofN k (ks.set m y)) l V cv wx)) (fun _ i _ => nx - (intOf i).toNat)
      case atStart => exact ⟨0, _, _, _, by omega, rfl, rfl, HAQ⟩
      case round =>
        clear HAQ
        obtain ⟨q, l, V, cv, hq, rfl, rfl, HA⟩ := hrel
        obtain ⟨wx, hwx⟩ : ∃ wx, wx = wr := ⟨_, rfl⟩
        subst hwx
        obtain ⟨⟨rows, hlen, hS⟩, hT5, hown5⟩ := HA.out
        have hbx := hS.bel
        have hzx := hbx.size
        have hpl := hS.pb.lt
        have hz5x := hT5.size
        by_cases hqn : q < nx
        · have hqi : (q : Int) < (nx : Int) := by omega
          have hXl : q < X.length := by rw [HNX.out]; exact hqn
          obtain ⟨x, hx⟩ : ∃ x, X[q]? = some x := ⟨_, List.getElem?_eq_getElem hXl⟩
          have hownX := HOX.out.own
          rw [HNX.out] at hownX
          obtain ⟨gx, curx, hVx, hgx1, hgx2, hgx3, hgx4, hgx5, hgx6⟩ := own_some hownX (by omega)
          subst hVx
          have hgxl := hgx2.lt
          have hkx := HOX.out.kid q x hx
          obtain ⟨k3, a3, b3, c3, d3, t3, A3, ln3, cp3, hr3⟩ := Ex.parts x hkx.is
          have hgr0 : some gx ≠ r0 := fun e => by have := HOLD2.out gx e.symm; omega
          have hxc : ∀ i v, i < 7 → (rx q)[i]? = some v → wx.cell? ⟨gx, q * 7 + i, none⟩ = some v := fun i v hi hv => by
            rw [World.cell?_of_block (hT5.block gx hgxl (by omega) hgr0), hgx2.cell, ← Array.getElem?_toList, ← hv, ← at_kdF (fun i hi => HOX.out.len7 i (by rw [HNX.out]; exact hi)) hqn hi, ← hgx6, List.getElem?_take_of_lt (by omega)]
          have y0 : wx.cell? ⟨gx, q * 7, none⟩ = some (.int .i64 k3) := hxc 0 _ (by omega) (by rw [hr3]; rfl)
          have y1 : wx.cell? ⟨gx, q * 7 + 1, none⟩ = some (.int .u64 a3) := hxc 1 _ (by omega) (by rw [hr3]; rfl)
          have y2 : wx.cell? ⟨gx, q * 7 + 2, none⟩ = some (.int .u64 b3) := hxc 2 _ (by omega) (by rw [hr3]; rfl)
          have y3 : wx.cell? ⟨gx, q * 7 + 3, none⟩ = some (.int .u64 c3) := hxc 3 _ (by omega) (by rw [hr3]; rfl)
          have y4 : wx.cell? ⟨gx, q * 7 + 4, none⟩ = some (.int .u64 d3) := hxc 4 _ (by omega) (by rw [hr3]; rfl)
          have y5 : wx.cell? ⟨gx, q * 7 + 5, none⟩ = some (.string t3) := hxc 5 _ (by omega) (by rw [hr3]; rfl)
          have y6 : wx.cell? ⟨gx, q * 7 + 6, none⟩ = some (.slice A3 ln3 cp3) := hxc 6 _ (by omega) (by rw [hr3]; rfl)
          have hgxx : gx < wx.heap.size := by omega
          have hbxa := hbx.alloc hzx (.cells #[.int .i64 k3, .int .u64 a3, .int .u64 b3, .int .u64 c3, .int .u64 d3, .string t3, .slice A3 ln3 cp3] 38)
          have n6 : (wx.alloc (.cells #[.int .i64 k3, .int .u64 a3, .int .u64 b3, .int .u64 c3, .int .u64 d3, .string t3, .slice A3 ln3 cp3] 38)).cell? ⟨w.heap.size, 6, none⟩ = some (.slice (some ad) ks.length cp) := (hS.pb.alloc _).cell 6
          have hxa : Blk (wx.alloc (.cells #[.int .i64 k3, .int .u64 a3, .int .u64 b3, .int .u64 c3, .int .u64 d3, .string t3, .slice A3 ln3 cp3] 38)) wx.heap.size 38 #[.int .i64 k3, .int .u64 a3, .int .u64 b3, .int .u64 c3, .int .u64 d3, .string t3, .slice A3 ln3 cp3] := blk_at rfl
          have hra : Below wx.heap.size wx (wx.alloc (.cells #[.int .i64 k3, .int .u64 a3, .int .u64 b3, .int .u64 c3, .int .u64 d3, .string t3, .slice A3 ln3 cp3] 38)) := (Below.refl _ wx).alloc (Nat.le_refl _) _
          have hsa : (wx.alloc (.cells #[.int .i64 k3, .int .u64 a3, .int .u64 b3, .int .u64 c3, .int .u64 d3, .string t3, .slice A3 ln3 cp3] 38)).heap.size = wx.heap.size + 1 := by simp
          have HKX := Lib.hid hkx
          have HR3 := Lib.hid hr3
          have HX := Lib.hid hx
          have HS := Lib.hid hS
          have HT5 := Lib.hid hT5
          have HOWN5 := Lib.hid hown5
          have HLEN := Lib.hid hlen
          have hl3 : l + 1 ≤ 4000 := by
            have h := HALM.out q
            rw [← hlen]
            omega
          clear hkx hr3 hx hS hT5 hown5 hxc hgx2 hgx6 hownX HA hlen hgr0
          go_upto_region 8 with fail
          clear y0 y1 y2 y3 y4 y5 y6
          generalize (wx.alloc (.cells #[.int .i64 k3, .int .u64 a3, .int .u64 b3, .int .u64 c3, .int .u64 d3, .string t3, .slice A3 ln3 cp3] 38)) = wxa at hbxa n6 hxa hra hsa ⊢
          go_wp2_with fail
          refine (HCLN.out _ hbxa).mono ?_
          rintro e wn ⟨V2, cq, rfl, hown2, hbn⟩
          obtain ⟨g, cur, rfl, hgb, hcur, hc1, hc2, hc3, htk⟩ := own_some hown2 (by omega)
          have hxb := hxa.below hbn hxa.lt
          have hl0 : cur.toList.length = cq * 7 := by rw [Array.length_toList]; exact hc3
          have hgne : g ≠ wx.heap.size := by omega
          have hnz := hbn.size
          obtain ⟨cu2, hB2, hL2, hG2⟩ := hcur.setCells [.int .i64 k3, .int .u64 a3, .int .u64 b3, .int .u64 c3, .int .u64 d3, .string t3, .slice A3 ln3 cp3] (m * 7) (by rw [hc3]; show m * 7 + 7 ≤ _; omega)
          have hD0 : Below wx.heap.size wx wn := hra.trans (hbn.mono hra.size)
          have hD2 : Below wx.heap.size wx (wn.setCells g (m * 7) [.int .i64 k3, .int .u64 a3, .int .u64 b3, .int .u64 c3, .int .u64 d3, .string t3, .slice A3 ln3 cp3]) := hD0.grown hG2 hD0.size fun r e => by injection e with e; omega
          have hgz : ∀ i, i < 7 → ∃ u0, cur[m * 7 + i]? = some u0 := fun i hi => ⟨_, Array.getElem?_eq_getElem (by rw [hc3]; omega)⟩
          obtain ⟨o0, g0⟩ := hgz 0 (by omega)
          obtain ⟨o1, g1⟩ := hgz 1 (by omega)
          obtain ⟨o2, g2⟩ := hgz 2 (by omega)
          obtain ⟨o3, g3⟩ := hgz 3 (by omega)
          obtain ⟨o4, g4⟩ := hgz 4 (by omega)
          obtain ⟨o5, g5⟩ := hgz 5 (by omega)
          obtain ⟨o6, g6⟩ := hgz 6 (by omega)
          have z0 : wn.cell? ⟨g, m * 7, none⟩ = some o0 := (hcur.cell _).trans g0
          have z1 : wn.cell? ⟨g, m * 7 + 1, none⟩ = some o1 := (hcur.cell _).trans g1
          have z2 : wn.cell? ⟨g, m * 7 + 2, none⟩ = some o2 := (hcur.cell _).trans g2
          have z3 : wn.cell? ⟨g, m * 7 + 3, none⟩ = some o3 := (hcur.cell _).trans g3
          have z4 : wn.cell? ⟨g, m * 7 + 4, none⟩ = some o4 := (hcur.cell _).trans g4
          have z5 : wn.cell? ⟨g, m * 7 + 5, none⟩ = some o5 := (hcur.cell _).trans g5
          have z6 : wn.cell? ⟨g, m * 7 + 6, none⟩ = some o6 := (hcur.cell _).trans g6
          have f0 := hcur.frozen (m * 7)
          have f1 := hcur.frozen (m * 7 + 1)
          have f2 := hcur.frozen (m * 7 + 2)
          have f3 := hcur.frozen (m * 7 + 3)
          have f4 := hcur.frozen (m * 7 + 4)
          have f5 := hcur.frozen (m * 7 + 5)
          have f6 := hcur.frozen (m * 7 + 6)
          have x0 : wn.cell? ⟨wx.heap.size, 0, none⟩ = some (.int .i64 k3) := hxb.cell 0
          have x1 : wn.cell? ⟨wx.heap.size, 1, none⟩ = some (.int .u64 a3) := hxb.cell 1
          have x2 : wn.cell? ⟨wx.heap.size, 2, none⟩ = some (.int .u64 b3) := hxb.cell 2
          have x3 : wn.cell? ⟨wx.heap.size, 3, none⟩ = some (.int .u64 c3) := hxb.cell 3
          have x4 : wn.cell? ⟨wx.heap.size, 4, none⟩ = some (.int .u64 d3) := hxb.cell 4
          have x5 : wn.cell? ⟨wx.heap.size, 5, none⟩ = some (.string t3) := hxb.cell 5
          have x6 : wn.cell? ⟨wx.heap.size, 6, none⟩ = some (.slice A3 ln3 cp3) := hxb.cell 6
          have HB2 := Lib.hid hB2
          have HL2 := Lib.hid hL2
          have HD2 := Lib.hid hD2
          have HTK := Lib.hid htk
          clear hB2 hL2 hG2 hD2 hD0 hown2 hbn hcur hgz g0 g1 g2 g3 g4 g5 g6 n6 hxa htk
          go_upto_region 10 with fail
          clear z0 z1 z2 z3 z4 z5 z6 f0 f1 f2 f3 f4 f5 f6 x0 x1 x2 x3 x4 x5 x6 hxb
          have hch : (((((((wn.setCell ⟨g, m * 7, none⟩ (.int .i64 k3)).setCell ⟨g, m * 7 + 1, none⟩ (.int .u64 a3)).setCell ⟨g, m * 7 + 2, none⟩ (.int .u64 b3)).setCell ⟨g, m * 7 + 3, none⟩ (.int .u64 c3)).setCell ⟨g, m * 7 + 4, none⟩ (.int .u64 d3)).setCell ⟨g, m * 7 + 5, none⟩ (.string t3)).setCell ⟨g, m * 7 + 6, none⟩ (.slice A3 ln3 cp3)) = wn.setCells g (m * 7) [.int .i64 k3, .int .u64 a3, .int .u64 b3, .int .u64 c3, .int .u64 d3, .string t3, .slice A3 ln3 cp3] := rfl
          rw [hch]
          clear hch
          generalize wn.setCells g (m * 7) [.int .i64 k3, .int .u64 a3, .int .u64 b3, .int .u64 c3, .int .u64 d3, .string t3, .slice A3 ln3 cp3] = W2 at HB2 HD2 ⊢
          have hS2 := HS.out.below HD2.out
          have n0 : W2.cell? ⟨w.heap.size, 0, none⟩ = some (.int .i64 k) := hS2.pb.cell 0
          have hSa := hS2.below ((Below.refl _ W2).alloc (Nat.le_refl _) (.cells #[.int .i64 k, .int .u64 0, .int .u64 0, .int .u64 0, .int .u64 0, .string ⟨#[]⟩, .slice (some ⟨g, 0, none⟩) ks.length cq] 38))
          have hDa := HD2.out.alloc HD2.out.size (.cells #[.int .i64 k, .int .u64 0, .int .u64 0, .int .u64 0, .int .u64 0, .string ⟨#[]⟩, .slice (some ⟨g, 0, none⟩) ks.length cq] 38)
          have hBa := HB2.out.alloc (.cells #[.int .i64 k, .int .u64 0, .int .u64 0, .int .u64 0, .int .u64 0, .string ⟨#[]⟩, .slice (some ⟨g, 0, none⟩) ks.length cq] 38)
          have hTa := HT5.out.more hDa
          have hz5w : wk5.heap.size ≤ W2.heap.size := by have := HD2.out.size; omega
          have hza : (W2.alloc (.cells #[.int .i64 k, .int .u64 0, .int .u64 0, .int .u64 0, .int .u64 0, .string ⟨#[]⟩, .slice (some ⟨g, 0, none⟩) ks.length cq] 38)).heap.size = W2.heap.size + 1 := by simp
          have hE : ExF (fun b => b < (W2.alloc (.cells #[.int .i64 k, .int .u64 0, .int .u64 0, .int .u64 0, .int .u64 0, .string ⟨#[]⟩, .slice (some ⟨g, 0, none⟩) ks.length cq] 38)).heap.size ∧ ¬ (B0 ≤ b ∧ b < w.heap.size + 1) ∧ some b ≠ (Value.slice V l cv).ownBlock) (W2.alloc (.cells #[.int .i64 k, .int .u64 0, .int .u64 0, .int .u64 0, .int .u64 0, .string ⟨#[]⟩, .slice (some ⟨g, 0, none⟩) ks.length cq] 38)).heap.size (W2.alloc (.cells #[.int .i64 k, .int .u64 0, .int .u64 0, .int .u64 0, .int .u64 0, .string ⟨#[]⟩, .slice (some ⟨g, 0, none⟩) ks.length cq] 38)) (ofN k (ks.set m x)) (exCells k 0 0 0 0 ⟨#[]⟩ (some ⟨g, 0, none⟩) (ks.set m x).length cq) := by
            have hlow : ∀ b, b < B0 → b < (W2.alloc (.cells #[.int .i64 k, .int .u64 0, .int .u64 0, .int .u64 0, .int .u64 0, .string ⟨#[]⟩, .slice (some ⟨g, 0, none⟩) ks.length cq] 38)).heap.size ∧ ¬ (B0 ≤ b ∧ b < w.heap.size + 1) ∧ some b ≠ (Value.slice V l cv).ownBlock := fun b hb => ⟨by have := hSa.bel.size; omega, by omega, fun e => by
              have h := (HS.out.outs.own.lt b (by rw [HLEN.out]; exact e.symm)).1
              omega⟩
            have hrow : ∀ qq, (Value.slice V l cv).ownBlock = some qq → qq < wx.heap.size := fun qq hq => HS.out.outs.old qq (by rw [HLEN.out]; exact hq)
            refine node_row (rows := fun i => if i = m then rx q else row i) k hBa hBa.lt ⟨hBa.lt, by omega, fun e => by have := hrow g e.symm; omega⟩ (by rw [List.length_set]; exact hc1) hc2 (fun i e he => ?_) ?_
            · rcases set_at he with ⟨rfl, rfl⟩ | ⟨hne, he⟩
              · simp only [if_true]
                refine (HKX.out.keep (W' := (W2.alloc (.cells #[.int .i64 k, .int .u64 0, .int .u64 0, .int .u64 0, .int .u64 0, .string ⟨#[]⟩, .slice (some ⟨g, 0, none⟩) ks.length cq] 38))) fun p hp => World.cell?_of_block (hTa.block p.block hp.1 (by omega) fun e => ?_)).mono (fun b hb => ⟨by have h1 := hb.1; omega, fun h => hb.2.1 ⟨h.1, by omega⟩, fun e => ?_⟩) (by omega)
                · have h := HOLD2.out p.block e.symm
                  exact hp.2.1 ⟨by omega, h.2⟩
                · rcases HOWN5.out with h | ⟨zz, h, hz⟩
                  · rw [h] at e
                    have h := HOLD2.out b e.symm
                    exact hb.2.1 ⟨by omega, h.2⟩
                  · rw [h] at e
                    injection e with e
                    have := hb.1
                    omega
              · simp only [if_neg hne]
                exact (exF_of (HROW.out i e he) (hSa.bel.mono hB)).mono hlow (by have := hSa.bel.size; omega)
            · rw [List.length_set, HL2.out, ← HR3.out, show m * 7 + (rx q).length = m * 7 + 7 by rw [HR3.out]; rfl]
              exact row_put (r := rx q) H7R.out hmn (by rw [hl0]; omega) HTK.out (by rw [HR3.out]; rfl)
          rw [List.length_set] at hE
          have hOa := hSa.outs.own
          rw [HLEN.out] at hOa
          have HOA := Lib.hid hOa
          have HE := Lib.hid hE
          have HSA := Lib.hid hSa
          have HTA := Lib.hid hTa
          have hbW2 : w.heap.size + 1 ≤ W2.heap.size := by have := hS2.bel.size; have := hS2.pb.lt; omega
          clear hOa hE hSa hTa hBa hDa hS2 HS HT5 HB2 HD2 HL2 HTK
          go_wp2_with (at_builtin; refine wpList_append_own_at _ rfl _ _ _ rfl (w.heap.size + 1) 38 i0 _ 7 80 Try.underlying36 hi0 hz0 hz1 hz2 rfl (by decide) _ l (kdF rows l) rfl HOA.out ⟨W2.heap.size, 0, none⟩ 1 1 [.int .i64 k, .int .u64 0, .int .u64 0, .int .u64 0, .int .u64 0, .string ⟨#[]⟩, .slice (some ⟨g, 0, none⟩) ks.length cq] rfl rfl (new_cells W2 38 [.int .i64 k, .int .u64 0, .int .u64 0, .int .u64 0, .int .u64 0, .string ⟨#[]⟩, .slice (some ⟨g, 0, none⟩) ks.length cq]) (by simp [Value.oneCell']) (by unfold maxLen; omega) (by omega) (by simp; omega) ?_; intro v' w4 hown4 hgr4 _ hat4; obtain ⟨V4, c4, rfl⟩ := own_form hown4)
          have hA4 := AlM.app HLEN.out HSA.out HE.out hown4 hgr4 hat4
          have hQ4 : AlQ B0 w wk5 r0 #[.int .i64 k, .int .u64 a, .int .u64 b, .int .u64 c, .int .u64 d, .string t, .slice (some ad) ks.length cp] (turnsE (.mk k a b c d t ks) ++ allEs k ks (ks.take m) 0 ++ (X.take (q + 1)).map fun y => ofN k (ks.set m y)) (l + 1) V4 c4 w4 := by
            refine ⟨?_, HTA.out.grown' hgr4 HOWN5.out, ?_⟩
            · rw [take_succ_of HX.out, List.map_append, ← List.append_assoc]
              exact hA4
            · rcases hat4 with h | h
              · rw [h]; exact HOWN5.out
              · exact .inr ⟨_, h, by rw [hza]; omega⟩
          have HQ4 := Lib.hid hQ4
          clear hQ4 hA4 hown4 hgr4 hat4
          go_roundw
          case rel => exact ⟨q + 1, l + 1, V4, c4, by omega, by go_num, rfl, HQ4⟩
          case measure => simp [intOf]; omega
        · obtain rfl : q = nx := by omega
          have HA2 : Hid (AlM B0 w #[.int .i64 k, .int .u64 a, .int .u64 b, .int .u64 c, .int .u64 d, .string t, .slice (some ad) ks.length cp] (turnsE (.mk k a b c d t ks) ++ allEs k ks (ks.take (m + 1)) 0) l V cv wx) := by
            have h := HA.out.1
            rw [← HNX.out, List.take_length, List.append_assoc, ← HSNO.out] at h
            exact h
          clear HA hlen hS hT5 hown5
          go_wp2
          go_roundw
          case rel => exact ⟨m + 1, l, V, cv, by omega, by go_num, rfl, HA2⟩
          case measure => simp [intOf]; omega
    · obtain rfl : m = ks.length := by omega
      have HF := Lib.hid (HQ.out _ _ _ _ HA.out)
      clear HA HQ HE HC HT HCLN HROW H7R HALL
      go_wp2
      first | exact HF.out | (go_ret; exact HF.out)
end Go.Proofs.Ytefechceoeeonaa
