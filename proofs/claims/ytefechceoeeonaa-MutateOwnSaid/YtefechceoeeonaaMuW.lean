/- mutate.turns' closure: one expression more in the row that it captured. -/
import Derived.Test.YtefechceoeeonaaMuC
import Derived.Test.YtefechceoeeonaaRA
namespace Go.Proofs.Ytefechceoeeonaa
open Go.RowKit Go.Maps

/-- the last element of a row of one's own -/
theorem own_last {W : World} {base m cv : Nat} {V : Option Addr} {xs zs : List Value} (h : W.ownsRow base 38 7 (.slice V (m + 1) cv) (m + 1) (xs ++ zs)) (hx : xs.length = m * 7) : ∃ g cur, V = some ⟨g, 0, none⟩ ∧ base ≤ g ∧ Blk W g 38 cur ∧ m + 1 ≤ cv ∧ cv ≤ maxLen ∧ cur.size = cv * 7 ∧ cur.toList.take (m * 7) = xs := by
  rcases h.2 with ⟨h1, h2⟩ | ⟨g, cap, cur, hv, h3, h4, h5, h6, h7, h8⟩
  · omega
  · injection hv with e1 e2 e3
    subst e1 e3
    refine ⟨g, cur, rfl, h3, h4, h5, h6, h7, ?_⟩
    have := congrArg (List.take (m * 7)) h8
    rw [List.take_take, Nat.min_eq_left (by omega), ← hx, List.take_left' rfl, hx] at this
    exact this
theorem own_of_last {W : World} {base m cv g : Nat} {xs : List Value} {cur : Array Value} (hg : base ≤ g) (hb : Blk W g 38 cur) (h1 : m + 1 ≤ cv) (h2 : cv ≤ maxLen) (h3 : cur.size = cv * 7) {zs : List Value} (hx : (xs ++ zs).length = (m + 1) * 7) (ht : cur.toList.take ((m + 1) * 7) = xs ++ zs) :
    W.ownsRow base 38 7 (.slice (some ⟨g, 0, none⟩) (m + 1) cv) (m + 1) (xs ++ zs) := ⟨hx, .inr ⟨g, cv, cur, rfl, hg, hb, h1, h2, h3, ht⟩⟩
/-- nothing but this box and this row's block is other -/
structure TwoW (ob : Nat) (r : Option Nat) (w w' : World) : Prop where
  os : w'.os = w.os
  tape : w'.tape = w.tape
  output : w'.output = w.output
  size : w.heap.size ≤ w'.heap.size
  block : ∀ b, b < w.heap.size → b ≠ ob → some b ≠ r → w'.heap[b]? = w.heap[b]?
section
variable {ob : Nat} {r : Option Nat} {a w w' : World}
theorem TwoW.of_below (h : Below a.heap.size a w) : TwoW ob r a w := ⟨h.os, h.tape, h.output, h.size, fun b hb _ _ => h.block b hb⟩
theorem TwoW.grown (h : TwoW ob r a w) (hg : w.grownBy w' r) : TwoW ob r a w' := ⟨hg.os.trans h.os, hg.tape.trans h.tape, hg.output.trans h.output, Nat.le_trans h.size hg.size, fun b hb h1 h2 => (hg.block b (Nat.lt_of_lt_of_le hb h.size) h2).trans (h.block b hb h1 h2)⟩
theorem TwoW.set_ (h : TwoW ob r a w) {g : Nat} (hg : g = ob ∨ some g = r ∨ a.heap.size ≤ g) (i : Nat) (u : Value) : TwoW ob r a (w.setCell ⟨g, i, none⟩ u) :=
  ⟨h.os, h.tape, h.output, by simpa [World.setCell] using h.size, fun b hb h1 h2 => (Below.heap_setCell w ⟨g, i, none⟩ u b (by
    show b ≠ g
    rintro rfl
    rcases hg with hg | hg | hg
    · exact h1 hg
    · exact h2 hg
    · omega)).trans (h.block b hb h1 h2)⟩
end
def zeroC : List Value := [.int .i64 0, .int .u64 0, .int .u64 0, .int .u64 0, .int .u64 0, .string ⟨#[]⟩, .slice none 0 0]

set_option maxRecDepth 100000 in
set_option maxHeartbeats 4000000 in
theorem with_any (k : Int) (A : Option Addr) (n c ob : Nat) (V : Option Addr) (m cv : Nat) (xs : List Value) (base : Nat) (w : World) (hob : Blk w ob 36 #[.slice V m cv]) (hbase : ob < base) (hb : base ≤ w.heap.size) (hown : w.ownsRow base 38 7 (.slice V m cv) m xs) (hm : m ≤ 4000) :
    Calls Try.prog 96 #[.int .i64 k, .slice A n c, .pointer (some ⟨ob, 0, none⟩)] w fun e w' =>
      e = .returned (.tuple #[]) ∧ ∃ V' cv', Blk w' ob 36 #[.slice V' (m + 1) cv'] ∧ w'.ownsRow base 38 7 (.slice V' (m + 1) cv') (m + 1) (xs ++ [.int .i64 k, .int .u64 0, .int .u64 0, .int .u64 0, .int .u64 0, .string ⟨#[]⟩, .slice A n c]) ∧
        TwoW ob (Value.slice V m cv).ownBlock w w' ∧ ((Value.slice V' (m + 1) cv').ownBlock = (Value.slice V m cv).ownBlock ∨ ∃ q, (Value.slice V' (m + 1) cv').ownBlock = some q ∧ w.heap.size ≤ q) := by
  obtain ⟨i0, hi0, hz0, hz1, hz2⟩ := info_parts expr_info
  have hone : some ob ≠ (Value.slice V m cv).ownBlock := own_ne hown hbase
  have hxl := hown.1
  have HW := Lib.hid hown
  have HON := Lib.hid hone
  have HXL := Lib.hid hxl
  clear hown hone hxl
  go_enter Try.func96, Try.ntmps96
  go_upto_region 0 with fail
  refine wp_region_l (fun W => Blk W ob 36 #[.slice V m cv]) (fun i => i == 7 || i == 8 || i == 9) (by kernel_rfl) ?_
  have hC := hob.drew
  have hD : Below w.heap.size w w.drew := (Below.refl _ _).drew
  have hO := own_below HW.out hD
  have hsz : w.heap.size ≤ w.drew.heap.size := Nat.le_refl _
  generalize w.drew = wd at hC hD hO hsz ⊢
  clear hob HW
  apply L.rd (i := 0) rfl (by kernel_rfl) hC rfl
  · intro W hW
    have n0 := hW.cell 0
    unfold readW
    go_simp
    first | rfl | exact ⟨rfl, rfl⟩
  first | simp only [Act.put, List.setIfInBounds_toArray, List.set_cons_succ, List.set_cons_zero] | skip
  apply L.rd (i := 1) rfl (by kernel_rfl) hC rfl
  · intro W hW
    skip
    unfold readW
    go_simp
    first | rfl | exact ⟨rfl, rfl⟩
  first | simp only [Act.put, List.setIfInBounds_toArray, List.set_cons_succ, List.set_cons_zero] | skip
  apply L.rd (i := 2) rfl (by kernel_rfl) hC rfl
  · intro W hW
    skip
    unfold readW
    go_simp
    first | rfl | exact ⟨rfl, rfl⟩
  first | simp only [Act.put, List.setIfInBounds_toArray, List.set_cons_succ, List.set_cons_zero] | skip
  apply L.rd (i := 3) rfl (by kernel_rfl) hC rfl
  · intro W hW
    skip
    unfold readW
    go_simp
    first | rfl | exact ⟨rfl, rfl⟩
  first | simp only [Act.put, List.setIfInBounds_toArray, List.set_cons_succ, List.set_cons_zero] | skip
  apply L.rd (i := 4) rfl (by kernel_rfl) hC rfl
  · intro W hW
    skip
    unfold readW
    go_simp
    first | rfl | exact ⟨rfl, rfl⟩
  first | simp only [Act.put, List.setIfInBounds_toArray, List.set_cons_succ, List.set_cons_zero] | skip
  apply L.one (i := 5) rfl (by kernel_rfl) rfl
  unfold stepT
  go_simp
  have hkb : Blk (wd.alloc (.cells #[.int .i64 0, .int .u64 0, .int .u64 0, .int .u64 0, .int .u64 0, .string ⟨#[]⟩, .slice none 0 0] 38)) wd.heap.size 38 #[.int .i64 0, .int .u64 0, .int .u64 0, .int .u64 0, .int .u64 0, .string ⟨#[]⟩, .slice none 0 0] := blk_at rfl
  have hC := hC.alloc (.cells #[.int .i64 0, .int .u64 0, .int .u64 0, .int .u64 0, .int .u64 0, .string ⟨#[]⟩, .slice none 0 0] 38)
  have hO := hO.alloc (.cells #[.int .i64 0, .int .u64 0, .int .u64 0, .int .u64 0, .int .u64 0, .string ⟨#[]⟩, .slice none 0 0] 38)
  have hD := hD.alloc (by omega) (.cells #[.int .i64 0, .int .u64 0, .int .u64 0, .int .u64 0, .int .u64 0, .string ⟨#[]⟩, .slice none 0 0] 38)
  generalize (wd.alloc (.cells #[.int .i64 0, .int .u64 0, .int .u64 0, .int .u64 0, .int .u64 0, .string ⟨#[]⟩, .slice none 0 0] 38)) = wk at hC hkb hO hD ⊢
  generalize wd.heap.size = nb at hkb ⊢
  refine ⟨hC, ?_⟩
  apply L.one (i := 6) rfl (by kernel_rfl) rfl
  refine stepT_append_at (.tmp 5) (.tmp 10) 36 rfl base 38 i0 _ 7 80 Try.underlying36 hi0 hz0 hz1 hz2 rfl (by decide) (.slice V m cv) m xs (by simp [Act.eval]) hO ⟨nb, 0, none⟩ 1 1 zeroC (by simp [Act.eval]) rfl (fun i u hu => by rw [cell_add]; exact (hkb.cell i).trans (by rw [List.getElem?_toArray]; exact hu)) (by decide) (by unfold maxLen; omega) (by omega) (Nat.le_trans hb hD.size) ?_
  intro v' w3 hown3 hgr hat
  obtain ⟨V3, c3, rfl⟩ := own_form hown3
  have hC := hC.grown hgr HON.out
  have hT := (TwoW.of_below (ob := ob) (r := (Value.slice V m cv).ownBlock) hD).grown hgr
  obtain ⟨g, cur, rfl, hgb, hcur, hc1, hc2, hc3, htk⟩ := own_last hown3 HXL.out
  have hgw : g = ob ∨ some g = (Value.slice V m cv).ownBlock ∨ w.heap.size ≤ g := by
    rcases hat with h1 | h1
    · exact .inr (.inl h1)
    · have h2 : g = wk.heap.size := by simpa [Value.ownBlock] using h1
      exact .inr (.inr (by have := hD.size; omega))
  have hat2 : (Value.slice (some (Addr.mk g 0 none)) (m + 1) c3).ownBlock = (Value.slice V m cv).ownBlock ∨ ∃ q, (Value.slice (some (Addr.mk g 0 none)) (m + 1) c3).ownBlock = some q ∧ w.heap.size ≤ q := by
    rcases hat with h1 | h1
    · exact .inl h1
    · exact .inr ⟨_, h1, hD.size⟩
  refine ⟨fun _ => hC, ?_⟩
  first | simp only [Act.put, List.setIfInBounds_toArray, List.set_cons_succ, List.set_cons_zero] | skip
  have hlt : (m : Int) < (m : Int) + 1 := by omega
  apply L.rdl (i := 7) rfl (by kernel_rfl) rfl
  · intro W
    unfold readW
    go_simp
    first | rfl | exact ⟨rfl, rfl⟩
  first | simp only [Act.put, List.setIfInBounds_toArray, List.set_cons_succ, List.set_cons_zero] | skip
  have hgo : g ≠ ob := by omega
  have hgz : ∀ i, i < 7 → ∃ u0, cur[m * 7 + i]? = some u0 := fun i hi => ⟨_, Array.getElem?_eq_getElem (by rw [hc3]; omega)⟩
  obtain ⟨o0, g0⟩ := hgz 0 (by omega)
  obtain ⟨o1, g1⟩ := hgz 1 (by omega)
  obtain ⟨o2, g2⟩ := hgz 2 (by omega)
  obtain ⟨o3, g3⟩ := hgz 3 (by omega)
  obtain ⟨o4, g4⟩ := hgz 4 (by omega)
  obtain ⟨o5, g5⟩ := hgz 5 (by omega)
  obtain ⟨o6, g6⟩ := hgz 6 (by omega)
  have HC3 := Lib.hid hc3
  have HTK := Lib.hid htk
  have HT := Lib.hid hT
  have HA2 := Lib.hid hat2
  have HGW := Lib.hid hgw
  clear hown3 hgr hat hgz hO hD hkb hc3 htk hT hat2 hgw
  apply L.two (i := 8) (k := 9) rfl rfl (by kernel_rfl) rfl rfl
  · have w3z : g ≠ ob := hgo
    have z0 : w3.cell? ⟨g, m * 7, none⟩ = some o0 := (hcur.cell _).trans g0
    have z1 : w3.cell? ⟨g, m * 7 + 1, none⟩ = some o1 := (hcur.cell _).trans g1
    have z2 : w3.cell? ⟨g, m * 7 + 2, none⟩ = some o2 := (hcur.cell _).trans g2
    have z3 : w3.cell? ⟨g, m * 7 + 3, none⟩ = some o3 := (hcur.cell _).trans g3
    have z4 : w3.cell? ⟨g, m * 7 + 4, none⟩ = some o4 := (hcur.cell _).trans g4
    have z5 : w3.cell? ⟨g, m * 7 + 5, none⟩ = some o5 := (hcur.cell _).trans g5
    have z6 : w3.cell? ⟨g, m * 7 + 6, none⟩ = some o6 := (hcur.cell _).trans g6
    have f0 := hcur.frozen (m * 7)
    have f1 := hcur.frozen (m * 7 + 1)
    have f2 := hcur.frozen (m * 7 + 2)
    have f3 := hcur.frozen (m * 7 + 3)
    have f4 := hcur.frozen (m * 7 + 4)
    have f5 := hcur.frozen (m * 7 + 5)
    have f6 := hcur.frozen (m * 7 + 6)
    have hC1 : Blk (((((((w3.setCell ⟨g, m * 7, none⟩ (.int .i64 k)).setCell ⟨g, m * 7 + 1, none⟩ (.int .u64 0)).setCell ⟨g, m * 7 + 2, none⟩ (.int .u64 0)).setCell ⟨g, m * 7 + 3, none⟩ (.int .u64 0)).setCell ⟨g, m * 7 + 4, none⟩ (.int .u64 0)).setCell ⟨g, m * 7 + 5, none⟩ (.string ⟨#[]⟩)).setCell ⟨g, m * 7 + 6, none⟩ (.slice A n c)) ob 36 #[.slice V m cv] := (((((((hC.far (by show ob ≠ g; omega) _).far (by show ob ≠ g; omega) _).far (by show ob ≠ g; omega) _).far (by show ob ≠ g; omega) _).far (by show ob ≠ g; omega) _).far (by show ob ≠ g; omega) _).far (by show ob ≠ g; omega) _)
    have hcur1 := (((((((hcur.set_ (m * 7) (.int .i64 k)).set_ (m * 7 + 1) (.int .u64 0)).set_ (m * 7 + 2) (.int .u64 0)).set_ (m * 7 + 3) (.int .u64 0)).set_ (m * 7 + 4) (.int .u64 0)).set_ (m * 7 + 5) (.string ⟨#[]⟩)).set_ (m * 7 + 6) (.slice A n c))
    have hT1 : TwoW ob (Value.slice V m cv).ownBlock w (((((((w3.setCell ⟨g, m * 7, none⟩ (.int .i64 k)).setCell ⟨g, m * 7 + 1, none⟩ (.int .u64 0)).setCell ⟨g, m * 7 + 2, none⟩ (.int .u64 0)).setCell ⟨g, m * 7 + 3, none⟩ (.int .u64 0)).setCell ⟨g, m * 7 + 4, none⟩ (.int .u64 0)).setCell ⟨g, m * 7 + 5, none⟩ (.string ⟨#[]⟩)).setCell ⟨g, m * 7 + 6, none⟩ (.slice A n c)) := (((((((HT.out.set_ HGW.out _ _).set_ HGW.out _ _).set_ HGW.out _ _).set_ HGW.out _ _).set_ HGW.out _ _).set_ HGW.out _ _).set_ HGW.out _ _)
    unfold stepT
    go_simp
    have HCU := Lib.hid hcur1
    have HT1 := Lib.hid hT1
    clear z0 z1 z2 z3 z4 z5 z6 f0 f1 f2 f3 f4 f5 f6 g0 g1 g2 g3 g4 g5 g6 hcur hC hcur1 hT1
    generalize (((((((w3.setCell ⟨g, m * 7, none⟩ (.int .i64 k)).setCell ⟨g, m * 7 + 1, none⟩ (.int .u64 0)).setCell ⟨g, m * 7 + 2, none⟩ (.int .u64 0)).setCell ⟨g, m * 7 + 3, none⟩ (.int .u64 0)).setCell ⟨g, m * 7 + 4, none⟩ (.int .u64 0)).setCell ⟨g, m * 7 + 5, none⟩ (.string ⟨#[]⟩)).setCell ⟨g, m * 7 + 6, none⟩ (.slice A n c)) = W1 at hC1 HCU HT1 ⊢
    have n0 := hC1.cell 0
    have f0 := hC1.frozen 0
    have hob1 : Blk (W1.setCell ⟨ob, 0, none⟩ (.slice (some ⟨g, 0, none⟩) (m + 1) c3)) ob 36 #[(.slice (some ⟨g, 0, none⟩) (m + 1) c3)] := hC1.set_ 0 _
    have hcu2 := HCU.out.far (p := ⟨ob, 0, none⟩) (by show g ≠ ob; omega) (.slice (some ⟨g, 0, none⟩) (m + 1) c3)
    have hT2 := HT1.out.set_ (g := ob) (.inl rfl) 0 (.slice (some ⟨g, 0, none⟩) (m + 1) c3)
    have hown2 : (W1.setCell ⟨ob, 0, none⟩ (.slice (some ⟨g, 0, none⟩) (m + 1) c3)).ownsRow base 38 7 (.slice (some ⟨g, 0, none⟩) (m + 1) c3) (m + 1) (xs ++ [.int .i64 k, .int .u64 0, .int .u64 0, .int .u64 0, .int .u64 0, .string ⟨#[]⟩, .slice A n c]) := by
      refine own_of_last hgb hcu2 hc1 hc2 (by simp [HC3.out]) (by rw [List.length_append, HXL.out]; show m * 7 + 7 = _; omega) ?_
      simp only [Array.toList_setIfInBounds]
      rw [show (m + 1) * 7 = m * 7 + 7 by omega, take_set7 _ _ _ _ _ _ _ (by rw [Array.length_toList, HC3.out]; omega), HTK.out]
    have HOW := Lib.hid hown2
    have HT2 := Lib.hid hT2
    have HOB := Lib.hid hob1
    clear hown2 hT2 hob1 hcu2 HCU HT1
    apply L.one (i := 9) rfl (by kernel_rfl) rfl
    unfold stepT
    go_simp
    refine L.done (by kernel_rfl) ?_
    go_wp2
    go_end0
    exact ⟨rfl, _, _, HOB.out, HOW.out, HT2.out, HA2.out⟩
  · have n0 := hC.cell 0
    have fo := hC.frozen 0
    unfold stepT
    go_simp
    have hob1 : Blk (w3.setCell ⟨ob, 0, none⟩ (.slice (some ⟨g, 0, none⟩) (m + 1) c3)) ob 36 #[(.slice (some ⟨g, 0, none⟩) (m + 1) c3)] := hC.set_ 0 _
    have hcu1 := hcur.far (p := ⟨ob, 0, none⟩) (by show g ≠ ob; omega) (.slice (some ⟨g, 0, none⟩) (m + 1) c3)
    have hT1 := HT.out.set_ (g := ob) (.inl rfl) 0 (.slice (some ⟨g, 0, none⟩) (m + 1) c3)
    clear n0 fo hC hcur
    generalize (w3.setCell ⟨ob, 0, none⟩ (.slice (some ⟨g, 0, none⟩) (m + 1) c3)) = W1 at hob1 hcu1 hT1 ⊢
    have z0 : W1.cell? ⟨g, m * 7, none⟩ = some o0 := (hcu1.cell _).trans g0
    have z1 : W1.cell? ⟨g, m * 7 + 1, none⟩ = some o1 := (hcu1.cell _).trans g1
    have z2 : W1.cell? ⟨g, m * 7 + 2, none⟩ = some o2 := (hcu1.cell _).trans g2
    have z3 : W1.cell? ⟨g, m * 7 + 3, none⟩ = some o3 := (hcu1.cell _).trans g3
    have z4 : W1.cell? ⟨g, m * 7 + 4, none⟩ = some o4 := (hcu1.cell _).trans g4
    have z5 : W1.cell? ⟨g, m * 7 + 5, none⟩ = some o5 := (hcu1.cell _).trans g5
    have z6 : W1.cell? ⟨g, m * 7 + 6, none⟩ = some o6 := (hcu1.cell _).trans g6
    have f0 := hcu1.frozen (m * 7)
    have f1 := hcu1.frozen (m * 7 + 1)
    have f2 := hcu1.frozen (m * 7 + 2)
    have f3 := hcu1.frozen (m * 7 + 3)
    have f4 := hcu1.frozen (m * 7 + 4)
    have f5 := hcu1.frozen (m * 7 + 5)
    have f6 := hcu1.frozen (m * 7 + 6)
    have hob2 : Blk (((((((W1.setCell ⟨g, m * 7, none⟩ (.int .i64 k)).setCell ⟨g, m * 7 + 1, none⟩ (.int .u64 0)).setCell ⟨g, m * 7 + 2, none⟩ (.int .u64 0)).setCell ⟨g, m * 7 + 3, none⟩ (.int .u64 0)).setCell ⟨g, m * 7 + 4, none⟩ (.int .u64 0)).setCell ⟨g, m * 7 + 5, none⟩ (.string ⟨#[]⟩)).setCell ⟨g, m * 7 + 6, none⟩ (.slice A n c)) ob 36 #[(.slice (some ⟨g, 0, none⟩) (m + 1) c3)] := (((((((hob1.far (by show ob ≠ g; omega) _).far (by show ob ≠ g; omega) _).far (by show ob ≠ g; omega) _).far (by show ob ≠ g; omega) _).far (by show ob ≠ g; omega) _).far (by show ob ≠ g; omega) _).far (by show ob ≠ g; omega) _)
    have hcu2 := (((((((hcu1.set_ (m * 7) (.int .i64 k)).set_ (m * 7 + 1) (.int .u64 0)).set_ (m * 7 + 2) (.int .u64 0)).set_ (m * 7 + 3) (.int .u64 0)).set_ (m * 7 + 4) (.int .u64 0)).set_ (m * 7 + 5) (.string ⟨#[]⟩)).set_ (m * 7 + 6) (.slice A n c))
    have hT2 : TwoW ob (Value.slice V m cv).ownBlock w (((((((W1.setCell ⟨g, m * 7, none⟩ (.int .i64 k)).setCell ⟨g, m * 7 + 1, none⟩ (.int .u64 0)).setCell ⟨g, m * 7 + 2, none⟩ (.int .u64 0)).setCell ⟨g, m * 7 + 3, none⟩ (.int .u64 0)).setCell ⟨g, m * 7 + 4, none⟩ (.int .u64 0)).setCell ⟨g, m * 7 + 5, none⟩ (.string ⟨#[]⟩)).setCell ⟨g, m * 7 + 6, none⟩ (.slice A n c)) := (((((((hT1.set_ HGW.out _ _).set_ HGW.out _ _).set_ HGW.out _ _).set_ HGW.out _ _).set_ HGW.out _ _).set_ HGW.out _ _).set_ HGW.out _ _)
    have hown2 : ((((((((W1.setCell ⟨g, m * 7, none⟩ (.int .i64 k)).setCell ⟨g, m * 7 + 1, none⟩ (.int .u64 0)).setCell ⟨g, m * 7 + 2, none⟩ (.int .u64 0)).setCell ⟨g, m * 7 + 3, none⟩ (.int .u64 0)).setCell ⟨g, m * 7 + 4, none⟩ (.int .u64 0)).setCell ⟨g, m * 7 + 5, none⟩ (.string ⟨#[]⟩)).setCell ⟨g, m * 7 + 6, none⟩ (.slice A n c))).ownsRow base 38 7 (.slice (some ⟨g, 0, none⟩) (m + 1) c3) (m + 1) (xs ++ [.int .i64 k, .int .u64 0, .int .u64 0, .int .u64 0, .int .u64 0, .string ⟨#[]⟩, .slice A n c]) := by
      refine own_of_last hgb hcu2 hc1 hc2 (by simp [HC3.out]) (by rw [List.length_append, HXL.out]; show m * 7 + 7 = _; omega) ?_
      simp only [Array.toList_setIfInBounds]
      rw [show (m + 1) * 7 = m * 7 + 7 by omega, take_set7 _ _ _ _ _ _ _ (by rw [Array.length_toList, HC3.out]; omega), HTK.out]
    have HOW := Lib.hid hown2
    have HT2 := Lib.hid hT2
    have HOB := Lib.hid hob2
    clear hown2 hT2 hob2 hcu2 hob1 hT1 hcu1 g0 g1 g2 g3 g4 g5 g6
    apply L.one (i := 8) rfl (by kernel_rfl) rfl
    unfold stepT
    go_simp
    refine L.done (by kernel_rfl) ?_
    go_wp2
    go_end0
    exact ⟨rfl, _, _, HOB.out, HOW.out, HT2.out, HA2.out⟩
end Go.Proofs.Ytefechceoeeonaa
