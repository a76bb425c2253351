/- mutate.turns: sequences and alternatives. -/
import Derived.Test.YtefechceoeeonaaMuS
import Derived.Test.YtefechceoeeonaaMuX
namespace Go.Proofs.Ytefechceoeeonaa
open Go.RowKit Go.Maps

def lessL (k : Int) (ks : List Ex) (j : Nat) : List Ex := (List.range j).map (lessK k ks)
def swapL (k : Int) (ks : List Ex) (j : Nat) : List Ex := (List.range j).map fun i => ofN k (swapK ks i)
theorem lessL_len (k : Int) (ks : List Ex) (j : Nat) : (lessL k ks j).length = j := by simp [lessL]
theorem swapL_len (k : Int) (ks : List Ex) (j : Nat) : (swapL k ks j).length = j := by simp [swapL]
theorem lessL_succ (k : Int) (ks : List Ex) (j : Nat) : lessL k ks (j + 1) = lessL k ks j ++ [lessK k ks j] := by unfold lessL; rw [List.range_succ, List.map_append]; rfl
theorem swapL_succ (k : Int) (ks : List Ex) (j : Nat) : swapL k ks (j + 1) = swapL k ks j ++ [ofN k (swapK ks j)] := by unfold swapL; rw [List.range_succ, List.map_append]; rfl
theorem own_some {w : World} {base n c : Nat} {V : Option Addr} {xs : List Value} (h : w.ownsRow base 38 7 (.slice V n c) n xs) (hn : 0 < n) : ∃ g cur, V = some ⟨g, 0, none⟩ ∧ base ≤ g ∧ Blk w g 38 cur ∧ n ≤ c ∧ c ≤ maxLen ∧ cur.size = c * 7 ∧ cur.toList.take (n * 7) = xs := by
  rcases h.2 with ⟨h1, h2⟩ | ⟨g, cap, cur, hv, h3, h4, h5, h6, h7, h8⟩
  · omega
  · injection hv with e1 e2 e3
    subst e1 e3
    exact ⟨g, cur, rfl, h3, h4, h5, h6, h7, h8⟩

set_option maxRecDepth 100000 in
set_option maxHeartbeats 8000000 in
theorem turns_seq (B0 : Nat) (a b c d : Int) (t : ByteArray) (ks : List Ex) (A : Option Addr) (cp : Nat) (w : World) (hB : B0 ≤ w.heap.size) (hE : ExIs w B0 (.mk 5 a b c d t ks) (exCells 5 a b c d t A ks.length cp)) (h8 : ks.length ≤ 8) :
    Calls Try.prog 83 #[.agg #[.int .i64 5, .int .u64 a, .int .u64 b, .int .u64 c, .int .u64 d, .string t, .slice A ks.length cp]] w (OutsQ B0 (lessL 5 ks ks.length) w) := by
  obtain ⟨i0, hi0, hz0, hz1, hz2⟩ := info_parts expr_info
  have hmf : ∀ (fn : Fn) (first cap : Array Value) (w : World), (Instr.makeFunc fn first cap).run Try.prog w = .ok (.func fn first cap) w := fun _ _ _ _ => rfl
  obtain ⟨row, hrd, hrow⟩ := kids_reads hE
  obtain ⟨_, _, hncp, hcpm, hAn⟩ := hE.len
  have h7r : ∀ i, i < ks.length → (row i).length = 7 := fun i hi => ex_len (hrow i _ (List.getElem?_eq_getElem hi))
  have hones := kdF_ones hrow _ (Nat.le_refl _)
  have hcln := fun W (hW : Below w.heap.size w W) => cloneE_any A ks.length cp (kdF row ks.length) W.heap.size W ((hrd.below (hW.mono hB)).more (Nat.le_trans hB hW.size)) hones (Nat.le_refl _) hAn (by omega)
  have hkid := fun j (hj : j < ks.length) => hE.kid hj
  have HCLN := Lib.hid hcln
  have HKID := Lib.hid hkid
  have HROW := Lib.hid hrow
  have H7R := Lib.hid h7r
  have HONE := Lib.hid hones
  have HAN := Lib.hid hAn
  have hxl : (kdF row ks.length).length = ks.length * 7 := kdF_len h7r
  have HXK := Lib.hid hxl
  clear hrd hcln hkid hrow h7r hones hAn hxl hncp hcpm hE
  have HQ : Hid (∀ V cv rows W, TuV B0 w #[.int .i64 5, .int .u64 a, .int .u64 b, .int .u64 c, .int .u64 d, .string t, .slice A ks.length cp] (lessL 5 ks ks.length) V cv rows W → OutsQ B0 (lessL 5 ks ks.length) w (.returned (.slice V ks.length cv)) W) := fun V cv rows W h => by
    have h1 := h.fin
    rw [lessL_len] at h1
    exact h1
  generalize OutsQ B0 (lessL 5 ks ks.length) w = Q at HQ ⊢
  go_enter Try.func83, Try.ntmps83
  go_upto_region 8 with fail
  have hob : Blk ((w.alloc (.cells #[.int .i64 5, .int .u64 a, .int .u64 b, .int .u64 c, .int .u64 d, .string t, .slice A ks.length cp] 38)).alloc (.cells #[.slice none 0 0] 36)) (w.heap.size + 1) 36 #[.slice none 0 0] := blk_at (by simp)
  have hpb : Blk ((w.alloc (.cells #[.int .i64 5, .int .u64 a, .int .u64 b, .int .u64 c, .int .u64 d, .string t, .slice A ks.length cp] 38)).alloc (.cells #[.slice none 0 0] 36)) w.heap.size 38 #[.int .i64 5, .int .u64 a, .int .u64 b, .int .u64 c, .int .u64 d, .string t, .slice A ks.length cp] := (blk_at rfl).alloc _
  have hb0 : Below w.heap.size w ((w.alloc (.cells #[.int .i64 5, .int .u64 a, .int .u64 b, .int .u64 c, .int .u64 d, .string t, .slice A ks.length cp] 38)).alloc (.cells #[.slice none 0 0] 36)) := (by repeat (first | exact Below.refl _ _ | assumption | refine Below.drew ?_ | refine below_drewN ?_ _ | refine Below.alloc ?_ (by first | omega | (simp; omega) | simp) _ | refine Below.setCell ?_ (by first | omega | (simp; omega) | simp) _))
  generalize ((w.alloc (.cells #[.int .i64 5, .int .u64 a, .int .u64 b, .int .u64 c, .int .u64 d, .string t, .slice A ks.length cp] 38)).alloc (.cells #[.slice none 0 0] 36)) = Ws at hob hpb hb0 ⊢
  have HS0 : Hid (TuS B0 w #[.int .i64 5, .int .u64 a, .int .u64 b, .int .u64 c, .int .u64 d, .string t, .slice A ks.length cp] (lessL 5 ks 0) Ws) := ⟨none, 0, _, hB, hb0, hpb, hob, Outs.nil _ _ _⟩
  have y6 := hpb.cell 6
  simp at y6
  clear hob hpb hb0
  go_wp2
  clear y6
  go_loopw [28] (fun i wr => ∃ m : Nat, m ≤ ks.length ∧ i = .int .i64 m ∧ Hid (TuS B0 w #[.int .i64 5, .int .u64 a, .int .u64 b, .int .u64 c, .int .u64 d, .string t, .slice A ks.length cp] (lessL 5 ks m) wr)) (fun i _ => ks.length - (intOf i).toNat)
  case atStart => exact ⟨0, by omega, rfl, HS0⟩
  case round =>
    clear HS0
    obtain ⟨m, hj, rfl, HS⟩ := hrel
    obtain ⟨W0, hW0⟩ : ∃ W0, W0 = wr := ⟨_, rfl⟩
    subst hW0
    have hpb := HS.out.pb
    have hbel := HS.out.bel
    have y6 : W0.cell? ⟨w.heap.size, 6, none⟩ = some (.slice A ks.length cp) := hpb.cell 6
    by_cases hjn : m < ks.length
    · have hjl : (m : Int) < (ks.length : Int) := by omega
      have hml : (lessL 5 ks m).length = m := lessL_len _ _ _
      have hm : m ≤ 4000 := by omega
      by_cases h2 : ks.length = 2
      · have q2 : ((ks.length : Int) == 2) = true := by rw [beq_iff_eq]; omega
        obtain ⟨i1, hi1⟩ : ∃ i1, 1 - m = i1 := ⟨_, rfl⟩
        have hq1 : IntKind.i64.wrap (1 - (m : Int)) = (i1 : Int) := by rw [wrap_i64 _ (by omega) (by omega)]; omega
        have hi1l : i1 < ks.length := by omega
        obtain ⟨ad, k2, a2, b2, c2, d2, t2, ks2, A2, cp2, hA, hab, hej, hx, h7⟩ := HKID.out i1 hi1l
        subst hA
        have y0 := h7.c0
        have y1 := h7.c1
        have y2 := h7.c2
        have y3 := h7.c3
        have y4 := h7.c4
        have y5 := h7.c5
        have z6 := h7.c6
        have hab' : (ad.add (i1 * 7)).block < w.heap.size := by rw [add_block]; omega
        obtain ⟨xx, hxx⟩ : ∃ xx, Ex.mk k2 a2 b2 c2 d2 t2 ks2 = xx := ⟨_, rfl⟩
        rw [hxx] at hx hej
        have hsn : lessL 5 ks (m + 1) = lessL 5 ks m ++ [xx] := by
          rw [lessL_succ]
          unfold lessK
          rw [if_pos h2, hi1, List.getD_eq_getElem?_getD, hej, Option.getD_some]
        have HSN := Lib.hid hsn
        unfold exCells at hx
        have HX := Lib.hid hx
        have h2m : m + 1 ≤ ks.length := by omega
        clear hsn hx hej h7 hxx h2 hi1 hpb
        go_upto_region 12 with fail
        obtain ⟨es, hes⟩ : ∃ es, lessL 5 ks m = es := ⟨_, rfl⟩
        rw [hes] at HS hml HSN
        obtain ⟨V, cv, rows, T0⟩ := HS.out
        have hW0 := T0.ob.lt
        have hEX := (exF_of HX.out (hbel.mono hB)).mono (S' := fun b => b < W0.heap.size ∧ ¬ (B0 ≤ b ∧ b < w.heap.size + 2) ∧ some b ≠ (Value.slice V es.length cv).ownBlock) (fun b hb => T0.low hb) (hi' := W0.heap.size) (by omega)
        rw [hml] at hEX
        have HEX := Lib.hid hEX
        have hxl : (kdF rows es.length).length = es.length * 7 := T0.outs.own.1
        rw [hml] at hxl
        have HXL := Lib.hid hxl
        have hC := T0.c.drew
        have hD : Below W0.heap.size W0 W0.drew := (Below.refl _ _).drew
        have hO := own_below T0.outs.own hD
        rw [hml] at hC hO
        have HML := Lib.hid hml
        clear hEX hxl hml hes HS HX HCLN HKID y6
        refine wp_region_l (TuC w (.slice V m cv) #[.int .i64 5, .int .u64 a, .int .u64 b, .int .u64 c, .int .u64 d, .string t, .slice (some ad) ks.length cp]) (fun i => i == 10 || i == 11 || i == 12) (by kernel_rfl) ?_
        generalize W0.drew = wd at hC hD hO ⊢
        apply L.rd (i := 0) rfl (by kernel_rfl) hC rfl
        · intro W hW
          have n0 := hW.ob.cell 0
          unfold readW
          go_simp
          first | rfl | exact ⟨rfl, rfl⟩
        first | simp only [Act.put, List.setIfInBounds_toArray, List.set_cons_succ, List.set_cons_zero] | skip
        apply L.rd (i := 1) rfl (by kernel_rfl) hC rfl
        · intro W hW
          skip
          unfold readW
          go_simp
          first | rfl | exact ⟨rfl, rfl⟩
        first | simp only [Act.put, List.setIfInBounds_toArray, List.set_cons_succ, List.set_cons_zero] | skip
        apply L.rd (i := 2) rfl (by kernel_rfl) hC rfl
        · intro W hW
          have n0 := hW.pb.cell 6
          unfold readW
          go_simp
          first | rfl | exact ⟨rfl, rfl⟩
        first | simp only [Act.put, List.setIfInBounds_toArray, List.set_cons_succ, List.set_cons_zero] | skip
        apply L.rd (i := 3) rfl (by kernel_rfl) hC rfl
        · intro W hW
          skip
          unfold readW
          go_simp
          first | rfl | exact ⟨rfl, rfl⟩
        first | simp only [Act.put, List.setIfInBounds_toArray, List.set_cons_succ, List.set_cons_zero] | skip
        apply L.rd (i := 4) rfl (by kernel_rfl) hC rfl
        · intro W hW
          skip
          unfold readW
          go_simp
          first | rfl | exact ⟨rfl, rfl⟩
        first | simp only [Act.put, List.setIfInBounds_toArray, List.set_cons_succ, List.set_cons_zero] | skip
        apply L.rd (i := 5) rfl (by kernel_rfl) hC rfl
        · intro W hW
          skip
          unfold readW
          go_simp
          first | rfl | exact ⟨rfl, rfl⟩
        first | simp only [Act.put, List.setIfInBounds_toArray, List.set_cons_succ, List.set_cons_zero] | skip
        apply L.rd (i := 6) rfl (by kernel_rfl) hC rfl
        · intro W hW
          have n0 := (hW.bel.cell (p := ad.add (i1 * 7)) hab').trans y0; have n1 := (hW.bel.cell (p := ⟨(ad.add (i1 * 7)).block, (ad.add (i1 * 7)).off + 1, none⟩) hab').trans y1; have n2 := (hW.bel.cell (p := ⟨(ad.add (i1 * 7)).block, (ad.add (i1 * 7)).off + 2, none⟩) hab').trans y2; have n3 := (hW.bel.cell (p := ⟨(ad.add (i1 * 7)).block, (ad.add (i1 * 7)).off + 3, none⟩) hab').trans y3; have n4 := (hW.bel.cell (p := ⟨(ad.add (i1 * 7)).block, (ad.add (i1 * 7)).off + 4, none⟩) hab').trans y4; have n5 := (hW.bel.cell (p := ⟨(ad.add (i1 * 7)).block, (ad.add (i1 * 7)).off + 5, none⟩) hab').trans y5; have n6 := (hW.bel.cell (p := ⟨(ad.add (i1 * 7)).block, (ad.add (i1 * 7)).off + 6, none⟩) hab').trans z6
          unfold readW
          go_simp
          first | rfl | exact ⟨rfl, rfl⟩
        first | simp only [Act.put, List.setIfInBounds_toArray, List.set_cons_succ, List.set_cons_zero] | skip
        apply L.rd (i := 7) rfl (by kernel_rfl) hC rfl
        · intro W hW
          skip
          unfold readW
          go_simp
          first | rfl | exact ⟨rfl, rfl⟩
        first | simp only [Act.put, List.setIfInBounds_toArray, List.set_cons_succ, List.set_cons_zero] | skip
        clear y0 y1 y2 y3 y4 y5 z6
        apply L.one (i := 8) rfl (by kernel_rfl) rfl
        unfold stepT
        go_simp
        have hkb : Blk (wd.alloc (.cells #[.int .i64 0, .int .u64 0, .int .u64 0, .int .u64 0, .int .u64 0, .string ⟨#[]⟩, .slice none 0 0] 38)) wd.heap.size 38 #[.int .i64 0, .int .u64 0, .int .u64 0, .int .u64 0, .int .u64 0, .string ⟨#[]⟩, .slice none 0 0] := blk_at rfl
        have hC := hC.alloc (.cells #[.int .i64 0, .int .u64 0, .int .u64 0, .int .u64 0, .int .u64 0, .string ⟨#[]⟩, .slice none 0 0] 38)
        have hO := hO.alloc (.cells #[.int .i64 0, .int .u64 0, .int .u64 0, .int .u64 0, .int .u64 0, .string ⟨#[]⟩, .slice none 0 0] 38)
        have hD := hD.alloc hD.size (.cells #[.int .i64 0, .int .u64 0, .int .u64 0, .int .u64 0, .int .u64 0, .string ⟨#[]⟩, .slice none 0 0] 38)
        generalize (wd.alloc (.cells #[.int .i64 0, .int .u64 0, .int .u64 0, .int .u64 0, .int .u64 0, .string ⟨#[]⟩, .slice none 0 0] 38)) = wk at hC hkb hO hD ⊢
        generalize wd.heap.size = nb at hkb ⊢
        refine ⟨hC, ?_⟩
        first | simp only [Act.put, List.setIfInBounds_toArray, List.set_cons_succ, List.set_cons_zero] | skip
        apply L.one (i := 9) rfl (by kernel_rfl) rfl
        refine stepT_append_at (.tmp 35) (.tmp 43) 36 rfl (w.heap.size + 2) 38 i0 _ 7 80 Try.underlying36 hi0 hz0 hz1 hz2 rfl (by decide) (.slice V m cv) m (kdF rows m) (by simp [Act.eval]) hO ⟨nb, 0, none⟩ 1 1 zeroC (by simp [Act.eval]) rfl (fun i u hu => by rw [cell_add]; exact (hkb.cell i).trans (by rw [List.getElem?_toArray]; exact hu)) (by decide) (by unfold maxLen; omega) (by omega) (by have := hD.size; omega) ?_
        intro v' w3 hown3 hgr hat
        obtain ⟨V3, c3, rfl⟩ := own_form hown3
        have hC := hC.grown hO hgr
        have hT := (TwoW.of_below (ob := w.heap.size + 1) (r := (Value.slice V m cv).ownBlock) hD).grown hgr
        obtain ⟨g, cur, rfl, hgb, hcur, hc1, hc2, hc3, htk⟩ := own_last hown3 HXL.out
        have hgw : g = w.heap.size + 1 ∨ some g = (Value.slice V m cv).ownBlock ∨ W0.heap.size ≤ g := by
          rcases hat with h1 | h1
          · exact .inr (.inl h1)
          · simp only [Value.ownBlock, Option.some.injEq] at h1
            exact .inr (.inr (by have := hD.size; omega))
        have hat2 : (Value.slice (some (Addr.mk g 0 none)) (m + 1) c3).ownBlock = (Value.slice V m cv).ownBlock ∨ ∃ q, (Value.slice (some (Addr.mk g 0 none)) (m + 1) c3).ownBlock = some q ∧ W0.heap.size ≤ q := by
          rcases hat with h1 | h1
          · exact .inl h1
          · exact .inr ⟨_, h1, hD.size⟩
        refine ⟨fun _ => hC, ?_⟩
        first | simp only [Act.put, List.setIfInBounds_toArray, List.set_cons_succ, List.set_cons_zero] | skip
        have hlt : (m : Int) < (m : Int) + 1 := by omega
        apply L.rdl (i := 10) rfl (by kernel_rfl) rfl
        · intro W
          unfold readW
          go_simp
          first | rfl | exact ⟨rfl, rfl⟩
        first | simp only [Act.put, List.setIfInBounds_toArray, List.set_cons_succ, List.set_cons_zero] | skip
        have hgo : g ≠ w.heap.size + 1 := by omega
        have hgz : ∀ i, i < 7 → ∃ u0, cur[m * 7 + i]? = some u0 := fun i hi => ⟨_, Array.getElem?_eq_getElem (by rw [hc3]; omega)⟩
        obtain ⟨o0, g0⟩ := hgz 0 (by omega)
        obtain ⟨o1, g1⟩ := hgz 1 (by omega)
        obtain ⟨o2, g2⟩ := hgz 2 (by omega)
        obtain ⟨o3, g3⟩ := hgz 3 (by omega)
        obtain ⟨o4, g4⟩ := hgz 4 (by omega)
        obtain ⟨o5, g5⟩ := hgz 5 (by omega)
        obtain ⟨o6, g6⟩ := hgz 6 (by omega)
        have hobb := hC.ob
        have HC3 := Lib.hid hc3
        have HTK := Lib.hid htk
        have HT := Lib.hid hT
        have HA2 := Lib.hid hat2
        have HGW := Lib.hid hgw
        clear hown3 hgr hat hgz hO hD hkb hc3 htk hT hat2 hgw hC
        apply L.two (i := 11) (k := 12) rfl rfl (by kernel_rfl) rfl rfl
        · have z0 : w3.cell? ⟨g, m * 7, none⟩ = some o0 := (hcur.cell _).trans g0
          have z1 : w3.cell? ⟨g, m * 7 + 1, none⟩ = some o1 := (hcur.cell _).trans g1
          have z2 : w3.cell? ⟨g, m * 7 + 2, none⟩ = some o2 := (hcur.cell _).trans g2
          have z3 : w3.cell? ⟨g, m * 7 + 3, none⟩ = some o3 := (hcur.cell _).trans g3
          have z4 : w3.cell? ⟨g, m * 7 + 4, none⟩ = some o4 := (hcur.cell _).trans g4
          have z5 : w3.cell? ⟨g, m * 7 + 5, none⟩ = some o5 := (hcur.cell _).trans g5
          have z6 : w3.cell? ⟨g, m * 7 + 6, none⟩ = some o6 := (hcur.cell _).trans g6
          have f0 := hcur.frozen (m * 7)
          have f1 := hcur.frozen (m * 7 + 1)
          have f2 := hcur.frozen (m * 7 + 2)
          have f3 := hcur.frozen (m * 7 + 3)
          have f4 := hcur.frozen (m * 7 + 4)
          have f5 := hcur.frozen (m * 7 + 5)
          have f6 := hcur.frozen (m * 7 + 6)
          have hobb1 : Blk (((((((w3.setCell ⟨g, m * 7, none⟩ (.int .i64 k2)).setCell ⟨g, m * 7 + 1, none⟩ (.int .u64 a2)).setCell ⟨g, m * 7 + 2, none⟩ (.int .u64 b2)).setCell ⟨g, m * 7 + 3, none⟩ (.int .u64 c2)).setCell ⟨g, m * 7 + 4, none⟩ (.int .u64 d2)).setCell ⟨g, m * 7 + 5, none⟩ (.string t2)).setCell ⟨g, m * 7 + 6, none⟩ (.slice A2 ks2.length cp2)) (w.heap.size + 1) 36 #[.slice V m cv] := (((((((hobb.far (by show w.heap.size + 1 ≠ g; omega) _).far (by show w.heap.size + 1 ≠ g; omega) _).far (by show w.heap.size + 1 ≠ g; omega) _).far (by show w.heap.size + 1 ≠ g; omega) _).far (by show w.heap.size + 1 ≠ g; omega) _).far (by show w.heap.size + 1 ≠ g; omega) _).far (by show w.heap.size + 1 ≠ g; omega) _)
          have hcur1 := (((((((hcur.set_ (m * 7) (.int .i64 k2)).set_ (m * 7 + 1) (.int .u64 a2)).set_ (m * 7 + 2) (.int .u64 b2)).set_ (m * 7 + 3) (.int .u64 c2)).set_ (m * 7 + 4) (.int .u64 d2)).set_ (m * 7 + 5) (.string t2)).set_ (m * 7 + 6) (.slice A2 ks2.length cp2))
          have hT1 : TwoW (w.heap.size + 1) (Value.slice V m cv).ownBlock W0 (((((((w3.setCell ⟨g, m * 7, none⟩ (.int .i64 k2)).setCell ⟨g, m * 7 + 1, none⟩ (.int .u64 a2)).setCell ⟨g, m * 7 + 2, none⟩ (.int .u64 b2)).setCell ⟨g, m * 7 + 3, none⟩ (.int .u64 c2)).setCell ⟨g, m * 7 + 4, none⟩ (.int .u64 d2)).setCell ⟨g, m * 7 + 5, none⟩ (.string t2)).setCell ⟨g, m * 7 + 6, none⟩ (.slice A2 ks2.length cp2)) := (((((((HT.out.set_ HGW.out _ _).set_ HGW.out _ _).set_ HGW.out _ _).set_ HGW.out _ _).set_ HGW.out _ _).set_ HGW.out _ _).set_ HGW.out _ _)
          unfold stepT
          go_simp
          have HCU0 := Lib.hid hcur1
          have HT1 := Lib.hid hT1
          clear z0 z1 z2 z3 z4 z5 z6 f0 f1 f2 f3 f4 f5 f6 g0 g1 g2 g3 g4 g5 g6 hcur hobb hcur1 hT1
          generalize (((((((w3.setCell ⟨g, m * 7, none⟩ (.int .i64 k2)).setCell ⟨g, m * 7 + 1, none⟩ (.int .u64 a2)).setCell ⟨g, m * 7 + 2, none⟩ (.int .u64 b2)).setCell ⟨g, m * 7 + 3, none⟩ (.int .u64 c2)).setCell ⟨g, m * 7 + 4, none⟩ (.int .u64 d2)).setCell ⟨g, m * 7 + 5, none⟩ (.string t2)).setCell ⟨g, m * 7 + 6, none⟩ (.slice A2 ks2.length cp2)) = W1 at hobb1 HCU0 HT1 ⊢
          have n0 := hobb1.cell 0
          have f0 := hobb1.frozen 0
          have hob2 : Blk (W1.setCell ⟨w.heap.size + 1, 0, none⟩ (.slice (some ⟨g, 0, none⟩) (m + 1) c3)) (w.heap.size + 1) 36 #[(.slice (some ⟨g, 0, none⟩) (m + 1) c3)] := hobb1.set_ 0 _
          have HCU := Lib.hid (HCU0.out.far (p := ⟨w.heap.size + 1, 0, none⟩) (by show g ≠ w.heap.size + 1; omega) (.slice (some ⟨g, 0, none⟩) (m + 1) c3))
          have hT2 := HT1.out.set_ (g := w.heap.size + 1) (.inl rfl) 0 (.slice (some ⟨g, 0, none⟩) (m + 1) c3)
          have hown2 : (W1.setCell ⟨w.heap.size + 1, 0, none⟩ (.slice (some ⟨g, 0, none⟩) (m + 1) c3)).ownsRow (w.heap.size + 2) 38 7 (.slice (some ⟨g, 0, none⟩) (m + 1) c3) (m + 1) (kdF rows m ++ [.int .i64 k2, .int .u64 a2, .int .u64 b2, .int .u64 c2, .int .u64 d2, .string t2, .slice A2 ks2.length cp2]) := by
            refine own_of_last hgb HCU.out hc1 hc2 (by simp [HC3.out]) (by rw [List.length_append, HXL.out]; show m * 7 + 7 = _; omega) ?_
            simp only [Array.toList_setIfInBounds]
            rw [show (m + 1) * 7 = m * 7 + 7 by omega, take_set7 _ _ _ _ _ _ _ (by rw [Array.length_toList, HC3.out]; omega), HTK.out]
          have HS := Lib.hid (T0.push' HML.out hT2 hob2 HEX.out hown2 HA2.out)
          clear hown2 hT2 hob2 HCU HCU0 HT1
          apply L.one (i := 12) rfl (by kernel_rfl) rfl
          unfold stepT
          go_simp
          refine L.done (by kernel_rfl) ?_
          clear hobb1 n0 f0
          generalize (W1.setCell ⟨w.heap.size + 1, 0, none⟩ (.slice (some ⟨g, 0, none⟩) (m + 1) c3)) = W2 at HS ⊢
          (have HS1 : Hid (TuS B0 w #[.int .i64 5, .int .u64 a, .int .u64 b, .int .u64 c, .int .u64 d, .string t, .slice (some ad) ks.length cp] (lessL 5 ks (m + 1)) W2) := by (show TuS _ _ _ _ _; rw [HSN.out]; exact ⟨_, _, _, HS.out⟩)); clear HS; go_wp2; go_roundw; (case rel => exact ⟨m + 1, h2m, by go_num, HS1⟩); (case measure => (simp [intOf]; omega))
        · have n0 := hobb.cell 0
          have fo := hobb.frozen 0
          unfold stepT
          go_simp
          have hob1 : Blk (w3.setCell ⟨w.heap.size + 1, 0, none⟩ (.slice (some ⟨g, 0, none⟩) (m + 1) c3)) (w.heap.size + 1) 36 #[(.slice (some ⟨g, 0, none⟩) (m + 1) c3)] := hobb.set_ 0 _
          have hcu1 := hcur.far (p := ⟨w.heap.size + 1, 0, none⟩) (by show g ≠ w.heap.size + 1; omega) (.slice (some ⟨g, 0, none⟩) (m + 1) c3)
          have hT1 := HT.out.set_ (g := w.heap.size + 1) (.inl rfl) 0 (.slice (some ⟨g, 0, none⟩) (m + 1) c3)
          clear n0 fo hobb hcur
          generalize (w3.setCell ⟨w.heap.size + 1, 0, none⟩ (.slice (some ⟨g, 0, none⟩) (m + 1) c3)) = W1 at hob1 hcu1 hT1 ⊢
          have z0 : W1.cell? ⟨g, m * 7, none⟩ = some o0 := (hcu1.cell _).trans g0
          have z1 : W1.cell? ⟨g, m * 7 + 1, none⟩ = some o1 := (hcu1.cell _).trans g1
          have z2 : W1.cell? ⟨g, m * 7 + 2, none⟩ = some o2 := (hcu1.cell _).trans g2
          have z3 : W1.cell? ⟨g, m * 7 + 3, none⟩ = some o3 := (hcu1.cell _).trans g3
          have z4 : W1.cell? ⟨g, m * 7 + 4, none⟩ = some o4 := (hcu1.cell _).trans g4
          have z5 : W1.cell? ⟨g, m * 7 + 5, none⟩ = some o5 := (hcu1.cell _).trans g5
          have z6 : W1.cell? ⟨g, m * 7 + 6, none⟩ = some o6 := (hcu1.cell _).trans g6
          have f0 := hcu1.frozen (m * 7)
          have f1 := hcu1.frozen (m * 7 + 1)
          have f2 := hcu1.frozen (m * 7 + 2)
          have f3 := hcu1.frozen (m * 7 + 3)
          have f4 := hcu1.frozen (m * 7 + 4)
          have f5 := hcu1.frozen (m * 7 + 5)
          have f6 := hcu1.frozen (m * 7 + 6)
          have hob2 : Blk (((((((W1.setCell ⟨g, m * 7, none⟩ (.int .i64 k2)).setCell ⟨g, m * 7 + 1, none⟩ (.int .u64 a2)).setCell ⟨g, m * 7 + 2, none⟩ (.int .u64 b2)).setCell ⟨g, m * 7 + 3, none⟩ (.int .u64 c2)).setCell ⟨g, m * 7 + 4, none⟩ (.int .u64 d2)).setCell ⟨g, m * 7 + 5, none⟩ (.string t2)).setCell ⟨g, m * 7 + 6, none⟩ (.slice A2 ks2.length cp2)) (w.heap.size + 1) 36 #[(.slice (some ⟨g, 0, none⟩) (m + 1) c3)] := (((((((hob1.far (by show w.heap.size + 1 ≠ g; omega) _).far (by show w.heap.size + 1 ≠ g; omega) _).far (by show w.heap.size + 1 ≠ g; omega) _).far (by show w.heap.size + 1 ≠ g; omega) _).far (by show w.heap.size + 1 ≠ g; omega) _).far (by show w.heap.size + 1 ≠ g; omega) _).far (by show w.heap.size + 1 ≠ g; omega) _)
          have HCU := Lib.hid (((((((hcu1.set_ (m * 7) (.int .i64 k2)).set_ (m * 7 + 1) (.int .u64 a2)).set_ (m * 7 + 2) (.int .u64 b2)).set_ (m * 7 + 3) (.int .u64 c2)).set_ (m * 7 + 4) (.int .u64 d2)).set_ (m * 7 + 5) (.string t2)).set_ (m * 7 + 6) (.slice A2 ks2.length cp2))
          have hT2 : TwoW (w.heap.size + 1) (Value.slice V m cv).ownBlock W0 (((((((W1.setCell ⟨g, m * 7, none⟩ (.int .i64 k2)).setCell ⟨g, m * 7 + 1, none⟩ (.int .u64 a2)).setCell ⟨g, m * 7 + 2, none⟩ (.int .u64 b2)).setCell ⟨g, m * 7 + 3, none⟩ (.int .u64 c2)).setCell ⟨g, m * 7 + 4, none⟩ (.int .u64 d2)).setCell ⟨g, m * 7 + 5, none⟩ (.string t2)).setCell ⟨g, m * 7 + 6, none⟩ (.slice A2 ks2.length cp2)) := (((((((hT1.set_ HGW.out _ _).set_ HGW.out _ _).set_ HGW.out _ _).set_ HGW.out _ _).set_ HGW.out _ _).set_ HGW.out _ _).set_ HGW.out _ _)
          have hown2 : (((((((W1.setCell ⟨g, m * 7, none⟩ (.int .i64 k2)).setCell ⟨g, m * 7 + 1, none⟩ (.int .u64 a2)).setCell ⟨g, m * 7 + 2, none⟩ (.int .u64 b2)).setCell ⟨g, m * 7 + 3, none⟩ (.int .u64 c2)).setCell ⟨g, m * 7 + 4, none⟩ (.int .u64 d2)).setCell ⟨g, m * 7 + 5, none⟩ (.string t2)).setCell ⟨g, m * 7 + 6, none⟩ (.slice A2 ks2.length cp2)).ownsRow (w.heap.size + 2) 38 7 (.slice (some ⟨g, 0, none⟩) (m + 1) c3) (m + 1) (kdF rows m ++ [.int .i64 k2, .int .u64 a2, .int .u64 b2, .int .u64 c2, .int .u64 d2, .string t2, .slice A2 ks2.length cp2]) := by
            refine own_of_last hgb HCU.out hc1 hc2 (by simp [HC3.out]) (by rw [List.length_append, HXL.out]; show m * 7 + 7 = _; omega) ?_
            simp only [Array.toList_setIfInBounds]
            rw [show (m + 1) * 7 = m * 7 + 7 by omega, take_set7 _ _ _ _ _ _ _ (by rw [Array.length_toList, HC3.out]; omega), HTK.out]
          have HS := Lib.hid (T0.push' HML.out hT2 hob2 HEX.out hown2 HA2.out)
          clear hown2 hT2 hob2 HCU hob1 hT1 hcu1 g0 g1 g2 g3 g4 g5 g6
          apply L.one (i := 11) rfl (by kernel_rfl) rfl
          unfold stepT
          go_simp
          refine L.done (by kernel_rfl) ?_
          clear z0 z1 z2 z3 z4 z5 z6 f0 f1 f2 f3 f4 f5 f6
          generalize (((((((W1.setCell ⟨g, m * 7, none⟩ (.int .i64 k2)).setCell ⟨g, m * 7 + 1, none⟩ (.int .u64 a2)).setCell ⟨g, m * 7 + 2, none⟩ (.int .u64 b2)).setCell ⟨g, m * 7 + 3, none⟩ (.int .u64 c2)).setCell ⟨g, m * 7 + 4, none⟩ (.int .u64 d2)).setCell ⟨g, m * 7 + 5, none⟩ (.string t2)).setCell ⟨g, m * 7 + 6, none⟩ (.slice A2 ks2.length cp2)) = W2 at HS ⊢
          (have HS1 : Hid (TuS B0 w #[.int .i64 5, .int .u64 a, .int .u64 b, .int .u64 c, .int .u64 d, .string t, .slice (some ad) ks.length cp] (lessL 5 ks (m + 1)) W2) := by (show TuS _ _ _ _ _; rw [HSN.out]; exact ⟨_, _, _, HS.out⟩)); clear HS; go_wp2; go_roundw; (case rel => exact ⟨m + 1, h2m, by go_num, HS1⟩); (case measure => (simp [intOf]; omega))
      · have q2 : ((ks.length : Int) == 2) = false := by rw [beq_eq_false_iff_ne]; omega
        have hqm : IntKind.i64.wrap ((m : Int) + 1) = (m : Int) + 1 := wrap_i64 _ (by omega) (by omega)
        have hel : (ks.eraseIdx m).length = ks.length - 1 := List.length_eraseIdx_of_lt hjn
        have hsn : lessL 5 ks (m + 1) = lessL 5 ks m ++ [ofN 5 (ks.eraseIdx m)] := by
          rw [lessL_succ]
          unfold lessK
          rw [if_neg h2]
        have HSN := Lib.hid hsn
        have HEL := Lib.hid hel
        have HML := Lib.hid hml
        have h2m : m + 1 ≤ ks.length := by omega
        clear hsn hel h2 hml
        go_upto_region 13 with fail
        have hP := HS.out.p
        refine wp_region_l (TuP w #[.int .i64 5, .int .u64 a, .int .u64 b, .int .u64 c, .int .u64 d, .string t, .slice A ks.length cp]) (fun _ => false) (by kernel_rfl) ?_
        have hD : Below W0.heap.size W0 W0.drew := (Below.refl _ _).drew
        have hC := hP.below' hD
        generalize W0.drew = wd at hC hD ⊢
        apply L.rd (i := 0) rfl (by kernel_rfl) hC rfl
        · intro W hW
          skip
          unfold readW
          go_simp
          first | rfl | exact ⟨rfl, rfl⟩
        first | simp only [Act.put, List.setIfInBounds_toArray, List.set_cons_succ, List.set_cons_zero] | skip
        apply L.rd (i := 1) rfl (by kernel_rfl) hC rfl
        · intro W hW
          skip
          unfold readW
          go_simp
          first | rfl | exact ⟨rfl, rfl⟩
        first | simp only [Act.put, List.setIfInBounds_toArray, List.set_cons_succ, List.set_cons_zero] | skip
        apply L.rd (i := 2) rfl (by kernel_rfl) hC rfl
        · intro W hW
          have n0 := hW.pb.cell 0
          unfold readW
          go_simp
          first | rfl | exact ⟨rfl, rfl⟩
        first | simp only [Act.put, List.setIfInBounds_toArray, List.set_cons_succ, List.set_cons_zero] | skip
        apply L.rd (i := 3) rfl (by kernel_rfl) hC rfl
        · intro W hW
          skip
          unfold readW
          go_simp
          first | rfl | exact ⟨rfl, rfl⟩
        first | simp only [Act.put, List.setIfInBounds_toArray, List.set_cons_succ, List.set_cons_zero] | skip
        apply L.rd (i := 4) rfl (by kernel_rfl) hC rfl
        · intro W hW
          have n0 := hW.pb.cell 6
          unfold readW
          go_simp
          first | rfl | exact ⟨rfl, rfl⟩
        first | simp only [Act.put, List.setIfInBounds_toArray, List.set_cons_succ, List.set_cons_zero] | skip
        apply L.rd (i := 6) rfl (by kernel_rfl) hC rfl
        · intro W hW
          skip
          unfold readW
          go_simp
          first | rfl | exact ⟨rfl, rfl⟩
        first | simp only [Act.put, List.setIfInBounds_toArray, List.set_cons_succ, List.set_cons_zero] | skip
        apply L.rd (i := 7) rfl (by kernel_rfl) hC rfl
        · intro W hW
          skip
          unfold readW
          go_simp
          first | rfl | exact ⟨rfl, rfl⟩
        first | simp only [Act.put, List.setIfInBounds_toArray, List.set_cons_succ, List.set_cons_zero] | skip
        apply L.rd (i := 8) rfl (by kernel_rfl) hC rfl
        · intro W hW
          skip
          unfold readW
          go_simp
          first | rfl | exact ⟨rfl, rfl⟩
        first | simp only [Act.put, List.setIfInBounds_toArray, List.set_cons_succ, List.set_cons_zero] | skip
        apply L.one (i := 5) rfl (by kernel_rfl) rfl
        unfold stepT
        go_simp
        go_at_call 84
        refine (HCLN.out _ hC.bel).mono ?_
        rintro e wn ⟨V2, cq, rfl, hown2, hbn⟩
        obtain ⟨g, cur, rfl, hgb, hcur, hc1, hc2, hc3, htk⟩ : ∃ g cur, V2 = some ⟨g, 0, none⟩ ∧ wd.heap.size ≤ g ∧ Blk wn g 38 cur ∧ ks.length ≤ cq ∧ cq ≤ maxLen ∧ cur.size = cq * 7 ∧ cur.toList.take (ks.length * 7) = kdF row ks.length := own_some hown2 (by omega)
        have hzd := hD.size
        replace hD := hD.trans (hbn.mono hD.size)
        replace hC := hP.below' hD
        clear hbn hown2
        refine ⟨_, rfl, hC, ?_⟩
        first | simp only [Act.put, List.setIfInBounds_toArray, List.set_cons_succ, List.set_cons_zero] | skip
        apply L.one (i := 9) rfl (by kernel_rfl) rfl
        unfold stepT
        go_simp
        go_at_call 98
        refine (deleteE_any g ks.length cq m cur (kdF row ks.length) wn hcur hc3 HXK.out htk HONE.out hjn hc1 (by unfold maxLen at hc2; omega)).mono ?_
        rintro e wm ⟨rfl, cs', hcur', hcs', htk', hgr⟩
        have hzn := hD.size
        replace hD : Below W0.heap.size W0 wm := hD.grown hgr hzn fun q e => by injection e with e; omega
        replace hC := hP.below' hD
        clear hgr hcur htk
        refine ⟨_, rfl, hC, ?_⟩
        first | simp only [Act.put, List.setIfInBounds_toArray, List.set_cons_succ, List.set_cons_zero] | skip
        have hbm := hC.bel
        have hEx : ExF (fun b => b < B0 ∨ (W0.heap.size ≤ b ∧ b < wm.heap.size)) wm.heap.size wm (ofN 5 (ks.eraseIdx m)) (exCells 5 0 0 0 0 ⟨#[]⟩ (some ⟨g, 0, none⟩) (ks.eraseIdx m).length cq) :=
          node_row (rows := fun i => row (if i < m then i else i + 1)) 5 hcur' hcur'.lt (.inr ⟨by omega, hcur'.lt⟩) (by rw [HEL.out]; omega) hc2 (fun i e he => (exF_of (HROW.out _ e (erase_at he)) (hbm.mono hB)).mono (fun b hb => .inl hb) (Nat.le_trans hB hbm.size)) (by rw [HEL.out, htk', kdF_less H7R.out hjn])
        have hws := with_step 5 (some ⟨g, 0, none⟩) cq (ks.eraseIdx m) HS.out hD rfl hEx (by rw [HML.out]; exact hm)
        rw [HEL.out] at hws
        have HWS := Lib.hid hws
        clear hws hEx hcur' hcs' htk' hC hbm hD
        apply L.one (i := 10) rfl (by kernel_rfl) rfl
        unfold stepT
        go_simp
        go_at_call 96
        refine HWS.out.mono ?_
        rintro e wz ⟨rfl, hS2⟩
        have HS1 : Hid (TuS B0 w #[.int .i64 5, .int .u64 a, .int .u64 b, .int .u64 c, .int .u64 d, .string t, .slice A ks.length cp] (lessL 5 ks (m + 1)) wz) := by
          show TuS _ _ _ _ _
          rw [HSN.out]
          exact hS2
        refine ⟨_, rfl, HS1.out.p, ?_⟩
        first | simp only [Act.put, List.setIfInBounds_toArray, List.set_cons_succ, List.set_cons_zero] | skip
        refine L.done (by kernel_rfl) ?_
        clear hS2 HS hpb y6 HWS
        go_wp2
        go_roundw
        case rel => exact ⟨m + 1, h2m, by go_num, HS1⟩
        case measure => simp [intOf]; omega
    · obtain rfl : m = ks.length := by omega
      rename World => ws
      obtain ⟨V, cv, rows, T⟩ := HS.out
      have n9 := T.ob.cell 0
      rw [lessL_len] at n9
      simp at n9
      have y0 := hpb.cell 0
      simp at y0
      have HF := Lib.hid (HQ.out _ _ _ _ T)
      clear T HS HCLN HKID HROW H7R HONE HAN HXK hjn hbel hpb HQ
      go_wp2
      go_loopw [6] (fun i wx => i = .int .i64 1 ∧ wx = ws) (fun _ _ => 0)
      case atStart => exact ⟨rfl, rfl⟩
      case round =>
        obtain ⟨rfl, rfl⟩ := hrel
        by_cases h1 : 1 < ks.length
        · have h1i : (1 : Int) < (ks.length : Int) := by omega
          go_wp2
          first | exact HF.out | (go_ret; exact HF.out)
        · have h1i : ¬ ((1 : Int) < (ks.length : Int)) := by omega
          go_wp2
          first | exact HF.out | (go_ret; exact HF.out)
end Go.Proofs.Ytefechceoeeonaa
