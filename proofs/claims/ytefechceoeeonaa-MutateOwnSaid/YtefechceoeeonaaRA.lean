/- chaffkeep.roomy and spoil, of expressions. -/
import Derived.Test.YtefechceoeeonaaKdM
import Derived.Test.YtefechceoeeonaaPkV
import Derived.Test.YtefechceoeeonaaQSpl
import Derived.WalkSpells
import Derived.Deep.DeepCutAuto
import Derived.Test.YtefechceoeeonaaKdR
namespace Go.Proofs.Ytefechceoeeonaa
open Go.RowKit Go.Maps

theorem take_set {l : List Value} {i : Nat} (u : Value) (h : i < l.length) : (l.set i u).take (i + 1) = l.take i ++ [u] := by
  rw [List.take_add_one, List.take_set_of_le (Nat.le_refl _)]
  simp [h]
theorem take_set7 {l : List Value} {i : Nat} (u0 u1 u2 u3 u4 u5 u6 : Value) (h : i + 7 ≤ l.length) : (((((((l.set i u0).set (i + 1) u1).set (i + 2) u2).set (i + 3) u3).set (i + 4) u4).set (i + 5) u5).set (i + 6) u6).take (i + 7) = l.take i ++ [u0, u1, u2, u3, u4, u5, u6] := by
  rw [show i + 7 = (i + 6) + 1 by omega, take_set _ (by simp; omega), show i + 6 = (i + 5) + 1 by omega, take_set _ (by simp; omega), show i + 5 = (i + 4) + 1 by omega, take_set _ (by simp; omega), show i + 4 = (i + 3) + 1 by omega, take_set _ (by simp; omega),
    show i + 3 = (i + 2) + 1 by omega, take_set _ (by simp; omega), show i + 2 = (i + 1) + 1 by omega, take_set _ (by simp; omega), take_set _ (by omega)]
  simp
def markE : List Value := [.int .i64 99, .int .u64 0, .int .u64 0, .int .u64 0, .int .u64 0, .string ⟨#[]⟩, .slice none 0 0]
def marks : Nat → List Value
  | 0 => []
  | k + 1 => marks k ++ markE
theorem marks_len : ∀ k, (marks k).length = k * 7
  | 0 => rfl
  | k + 1 => by rw [marks, List.length_append, marks_len k]; show _ + 7 = _; omega
def zerosE (n : Nat) : Array Value := madeCells (Value.agg #[.int .i64 0, .int .u64 0, .int .u64 0, .int .u64 0, .int .u64 0, .string ⟨#[]⟩, .slice none 0 0]).cells (n * 7)
theorem zerosE_size (n : Nat) : (zerosE n).size = n * 7 := by simp [zerosE, size_madeCells]

set_option maxRecDepth 100000 in
set_option maxHeartbeats 4000000 in
theorem roomyE_any (A : Option Addr) (n c : Nat) (xs : List Value) (B : Nat) (w : World) (hr : Reads w B 7 A n xs) (h1 : ∀ u ∈ xs, u.oneCell' = true) (hB : B ≤ w.heap.size) (hA : A = none → c = 0) (hn : n ≤ 1759218604390) :
    Calls Try.prog 75 #[.slice A n c, .agg #[.int .i64 99, .int .u64 0, .int .u64 0, .int .u64 0, .int .u64 0, .string ⟨#[]⟩, .slice none 0 0]] w fun e w' =>
      ∃ g cs, e = .returned (.slice (some ⟨g, 0, none⟩) n (n + 3)) ∧ w.heap.size ≤ g ∧ Blk w' g 38 cs ∧ cs.toList = xs ++ marks 3 ∧ Below w.heap.size w w' := by
  obtain ⟨i0, hi0, hz0, hz1, hz2⟩ := info_parts expr_info
  have HL := Lib.hid hr.len
  have hmk := fun W => made_run Try.underlying36 hi0 hz0 .i64 .i64 (Nat.zero_le (n + 3)) (by rw [hz2]; omega) (by omega) W
  rw [hz1] at hmk
  have hmk' : ∀ W : World, (Instr.makeSlice 36 (.int .i64 0) (.int .i64 ((n : Int) + 3))).run Try.prog W = .ok (.slice (some ⟨W.heap.size, 0, none⟩) 0 (n + 3)) (W.alloc (.cells (zerosE (n + 3)) 38)) := hmk
  clear hmk
  have hnone : A = none → n = 0 ∧ c = 0 := fun h => by
    refine ⟨?_, hA h⟩
    rcases Nat.eq_zero_or_pos n with h0 | h0
    · exact h0
    · obtain ⟨ad, h', _⟩ := hr.lies h0
      rw [h] at h'
      cases h'
  have HN := Lib.hid hnone
  clear hnone hA
  have hbx : Blk (w.alloc (.cells #[.int .i64 99, .int .u64 0, .int .u64 0, .int .u64 0, .int .u64 0, .string ⟨#[]⟩, .slice none 0 0] 38)) w.heap.size 38 #[.int .i64 99, .int .u64 0, .int .u64 0, .int .u64 0, .int .u64 0, .string ⟨#[]⟩, .slice none 0 0] := blk_at rfl
  have hb0 : Below w.heap.size w (w.alloc (.cells #[.int .i64 99, .int .u64 0, .int .u64 0, .int .u64 0, .int .u64 0, .string ⟨#[]⟩, .slice none 0 0] 38)) := (by repeat (first | exact Below.refl _ _ | assumption | refine Below.drew ?_ | refine below_drewN ?_ _ | refine Below.alloc ?_ (by first | omega | (simp; omega) | simp) _ | refine Below.setCell ?_ (by first | omega | (simp; omega) | simp) _))
  have hsz0 : (w.alloc (.cells #[.int .i64 99, .int .u64 0, .int .u64 0, .int .u64 0, .int .u64 0, .string ⟨#[]⟩, .slice none 0 0] 38)).heap.size = w.heap.size + 1 := by simp
  have hr0 := hr.alloc hB (.cells #[.int .i64 99, .int .u64 0, .int .u64 0, .int .u64 0, .int .u64 0, .string ⟨#[]⟩, .slice none 0 0] 38)
  have HR0 := Lib.hid hr0
  clear hr hr0
  go_enter Try.func75, Try.ntmps75
  go_upto_region 1 with fail
  generalize (w.alloc (.cells #[.int .i64 99, .int .u64 0, .int .u64 0, .int .u64 0, .int .u64 0, .string ⟨#[]⟩, .slice none 0 0] 38)) = w0 at hbx hb0 hsz0 HR0 ⊢
  have hgl0 : w.heap.size < w0.heap.size := by omega
  clear hsz0
  have C1 : Hid ((w0.alloc (.cells (zerosE (n + 3)) 38)).ownsRow w0.heap.size 38 7 (.slice (some ⟨w0.heap.size, 0, none⟩) 0 (n + 3)) 0 []) :=
    ⟨rfl, .inr ⟨_, _, zerosE (n + 3), rfl, Nat.le_refl _, blk_at rfl, by omega, by unfold maxLen; omega, by rw [zerosE_size], by simp⟩⟩
  have C3 : Hid (∀ ad, A = some ad → ∀ j u, xs[j]? = some u → (w0.alloc (.cells (zerosE (n + 3)) 38)).cell? (ad.add j) = some u) := by
    intro ad hA j u hu
    have hj := getElem?_lt hu
    have hn0 : 0 < n := by have := HL.out; omega
    obtain ⟨ad', e, _, hc⟩ := (HR0.out.alloc (by omega) (.cells (zerosE (n + 3)) 38)).lies hn0
    rw [hA] at e
    injection e with e
    rw [e]
    exact hc j u hu
  go_wp2_with (at_builtin; refine wpList_append_fits_any _ rfl _ _ _ rfl w0.heap.size 38 i0 7 Try.underlying36 hi0 hz1 w0.heap.size 0 (n + 3) [] rfl C1.out A n c xs rfl HL.out HN.out C3.out h1 (by omega) ?_; intro w1 hown1 hgrow)
  have hb1 : Below w.heap.size w w1 := (hb0.alloc (by omega) _).grown hgrow (by simp; omega) (fun k hk => by injection hk with hk; omega)
  have hbx1 : Blk w1 w.heap.size 38 #[.int .i64 99, .int .u64 0, .int .u64 0, .int .u64 0, .int .u64 0, .string ⟨#[]⟩, .slice none 0 0] := (hbx.alloc _).grown hgrow (by intro e; injection e with e; omega)
  obtain ⟨cs0, hblk0, hs0, ht0⟩ : ∃ cs, Blk w1 w0.heap.size 38 cs ∧ cs.size = (n + 3) * 7 ∧ cs.toList.take ((n + 0) * 7) = xs ++ marks 0 := by
    rcases hown1.2 with ⟨h, _⟩ | ⟨g, cap, cur, hv, hg, hh, h1, h2, h3, h4⟩
    · cases h
    · simp only [Value.slice.injEq, Option.some.injEq, Addr.mk.injEq] at hv
      obtain ⟨⟨rfl, _⟩, _, rfl⟩ := hv
      exact ⟨cur, hh, h3, by simpa [marks] using h4⟩
  clear hown1 hgrow hmk' HR0 C1 C3 HN hbx hb0
  generalize w0.heap.size = gb at hblk0 hgl0 ⊢
  have hng : w.heap.size < w1.heap.size := hbx1.lt
  go_wp2
  go_loopw [6, 13] (fun _ i wr => ∃ k : Nat, k ≤ 3 ∧ i = .int .i64 k ∧ (∃ cs, Blk wr gb 38 cs ∧ cs.size = (n + 3) * 7 ∧ cs.toList.take ((n + k) * 7) = xs ++ marks k) ∧ Below w.heap.size w wr ∧ Blk wr w.heap.size 38 #[.int .i64 99, .int .u64 0, .int .u64 0, .int .u64 0, .int .u64 0, .string ⟨#[]⟩, .slice none 0 0]) (fun _ i _ => 3 - (intOf i).toNat)
  case atStart => exact ⟨0, by omega, rfl, ⟨cs0, hblk0, hs0, ht0⟩, hb1, hbx1⟩
  case round =>
    clear hb1 hbx1 hblk0 hs0 ht0 hng
    obtain ⟨k, hk, rfl, ⟨cs, hblk, hs, ht⟩, hbw, hbx⟩ := hrel
    have HT := Lib.hid ht
    have HS := Lib.hid hs
    clear ht hs
    by_cases hk3 : k < 3
    · have q1 : IntKind.i64.wrap ((n : Int) + 3) = ((n + 3 : Nat) : Int) := by rw [wrap_i64 _ (by omega) (by omega)]; omega
      have q2 : IntKind.i64.wrap ((n : Int) + (k : Int)) = ((n + k : Nat) : Int) := by rw [wrap_i64 _ (by omega) (by omega)]; omega
      have q4 : max ((n : Int) + 3) 0 = (n : Int) + 3 := by omega
      have q5 : (0 : Int) ≤ (n : Int) + (k : Int) := by omega
      have q6 : (n : Int) + (k : Int) < (n : Int) + 3 := by omega
      have q7 : ((n : Int) + (k : Int)).toNat = n + k := by omega
      go_upto_region 5 with fail
      refine wp_region_l (Below wr.heap.size wr) (· == 11) (by kernel_rfl) ?_
      have hC : Below wr.heap.size wr wr.drew := (Below.refl _ _).drew
      have hdr : wr.drew.heap.size = wr.heap.size := rfl
      generalize wr.drew = wd at hC hdr ⊢
      apply L.rd (i := 0) rfl (by kernel_rfl) hC rfl
      · intro W hW
        skip
        unfold readW
        go_simp
        first | rfl | exact ⟨rfl, rfl⟩
      first | simp only [Act.put, List.setIfInBounds_toArray, List.set_cons_succ, List.set_cons_zero] | skip
      apply L.rd (i := 1) rfl (by kernel_rfl) hC rfl
      · intro W hW
        skip
        unfold readW
        go_simp
        first | rfl | exact ⟨rfl, rfl⟩
      first | simp only [Act.put, List.setIfInBounds_toArray, List.set_cons_succ, List.set_cons_zero] | skip
      apply L.rd (i := 2) rfl (by kernel_rfl) hC rfl
      · intro W hW
        skip
        unfold readW
        go_simp
        first | rfl | exact ⟨rfl, rfl⟩
      first | simp only [Act.put, List.setIfInBounds_toArray, List.set_cons_succ, List.set_cons_zero] | skip
      apply L.rd (i := 3) rfl (by kernel_rfl) hC rfl
      · intro W hW
        skip
        unfold readW
        go_simp
        first | rfl | exact ⟨rfl, rfl⟩
      first | simp only [Act.put, List.setIfInBounds_toArray, List.set_cons_succ, List.set_cons_zero] | skip
      apply L.rd (i := 4) rfl (by kernel_rfl) hC rfl
      · intro W hW
        skip
        unfold readW
        go_simp
        first | rfl | exact ⟨rfl, rfl⟩
      first | simp only [Act.put, List.setIfInBounds_toArray, List.set_cons_succ, List.set_cons_zero] | skip
      apply L.rd (i := 5) rfl (by kernel_rfl) hC rfl
      · intro W hW
        skip
        unfold readW
        go_simp
        first | rfl | exact ⟨rfl, rfl⟩
      first | simp only [Act.put, List.setIfInBounds_toArray, List.set_cons_succ, List.set_cons_zero] | skip
      apply L.rd (i := 6) rfl (by kernel_rfl) hC rfl
      · intro W hW
        skip
        unfold readW
        go_simp
        first | rfl | exact ⟨rfl, rfl⟩
      first | simp only [Act.put, List.setIfInBounds_toArray, List.set_cons_succ, List.set_cons_zero] | skip
      apply L.rd (i := 7) rfl (by kernel_rfl) hC rfl
      · intro W hW
        skip
        unfold readW
        go_simp
        first | rfl | exact ⟨rfl, rfl⟩
      first | simp only [Act.put, List.setIfInBounds_toArray, List.set_cons_succ, List.set_cons_zero] | skip
      apply L.rd (i := 8) rfl (by kernel_rfl) hC rfl
      · intro W hW
        skip
        unfold readW
        go_simp
        first | rfl | exact ⟨rfl, rfl⟩
      first | simp only [Act.put, List.setIfInBounds_toArray, List.set_cons_succ, List.set_cons_zero] | skip
      apply L.rd (i := 9) rfl (by kernel_rfl) hC rfl
      · intro W hW
        have r0 := (hbx.below hW hbx.lt).cell 0; have r1 := (hbx.below hW hbx.lt).cell 1; have r2 := (hbx.below hW hbx.lt).cell 2; have r3 := (hbx.below hW hbx.lt).cell 3; have r4 := (hbx.below hW hbx.lt).cell 4; have r5 := (hbx.below hW hbx.lt).cell 5; have r6 := (hbx.below hW hbx.lt).cell 6
        unfold readW
        go_simp
        first | rfl | exact ⟨rfl, rfl⟩
      first | simp only [Act.put, List.setIfInBounds_toArray, List.set_cons_succ, List.set_cons_zero] | skip
      apply L.rd (i := 10) rfl (by kernel_rfl) hC rfl
      · intro W hW
        skip
        unfold readW
        go_simp
        first | rfl | exact ⟨rfl, rfl⟩
      first | simp only [Act.put, List.setIfInBounds_toArray, List.set_cons_succ, List.set_cons_zero] | skip
      have hg : ∀ i, i < 7 → ∃ u0, cs[(n + k) * 7 + i]? = some u0 := fun i hi => ⟨_, Array.getElem?_eq_getElem (by rw [HS.out]; omega)⟩
      have hblk2 : Blk wd gb 38 cs := hblk.below hC hblk.lt
      have hbd : Blk wd w.heap.size 38 #[.int .i64 99, .int .u64 0, .int .u64 0, .int .u64 0, .int .u64 0, .string ⟨#[]⟩, .slice none 0 0] := hbx.below hC hbx.lt
      have hbx0 : w.heap.size ≤ wr.heap.size := Nat.le_of_lt hbx.lt
      obtain ⟨o0, g0⟩ := hg 0 (by omega)
      obtain ⟨o1, g1⟩ := hg 1 (by omega)
      obtain ⟨o2, g2⟩ := hg 2 (by omega)
      obtain ⟨o3, g3⟩ := hg 3 (by omega)
      obtain ⟨o4, g4⟩ := hg 4 (by omega)
      obtain ⟨o5, g5⟩ := hg 5 (by omega)
      obtain ⟨o6, g6⟩ := hg 6 (by omega)
      have z0 : wd.cell? ⟨gb, (n + k) * 7, none⟩ = some o0 := (hblk2.cell _).trans g0
      have z1 : wd.cell? ⟨gb, (n + k) * 7 + 1, none⟩ = some o1 := (hblk2.cell _).trans g1
      have z2 : wd.cell? ⟨gb, (n + k) * 7 + 2, none⟩ = some o2 := (hblk2.cell _).trans g2
      have z3 : wd.cell? ⟨gb, (n + k) * 7 + 3, none⟩ = some o3 := (hblk2.cell _).trans g3
      have z4 : wd.cell? ⟨gb, (n + k) * 7 + 4, none⟩ = some o4 := (hblk2.cell _).trans g4
      have z5 : wd.cell? ⟨gb, (n + k) * 7 + 5, none⟩ = some o5 := (hblk2.cell _).trans g5
      have z6 : wd.cell? ⟨gb, (n + k) * 7 + 6, none⟩ = some o6 := (hblk2.cell _).trans g6
      have f0 := hblk2.frozen ((n + k) * 7)
      have f1 := hblk2.frozen ((n + k) * 7 + 1)
      have f2 := hblk2.frozen ((n + k) * 7 + 2)
      have f3 := hblk2.frozen ((n + k) * 7 + 3)
      have f4 := hblk2.frozen ((n + k) * 7 + 4)
      have f5 := hblk2.frozen ((n + k) * 7 + 5)
      have f6 := hblk2.frozen ((n + k) * 7 + 6)
      clear hg g0 g1 g2 g3 g4 g5 g6
      apply L.one (i := 11) rfl (by kernel_rfl) rfl
      unfold stepT
      go_simp
      refine L.done (by kernel_rfl) ?_
      clear hblk hbx
      have hB2 : Below w.heap.size w wd := hbw.trans (hC.mono hbx0)
      go_wp2
      go_roundw
      case rel =>
        refine ⟨k + 1, by omega, by go_num, ⟨_, ((((((hblk2.set_ ((n + k) * 7) _).set_ _ _).set_ _ _).set_ _ _).set_ _ _).set_ _ _).set_ _ _, by simp [HS.out], ?_⟩, ((((((hB2.setCell (by show w.heap.size ≤ gb; omega) _).setCell (by show w.heap.size ≤ gb; omega) _).setCell (by show w.heap.size ≤ gb; omega) _).setCell (by show w.heap.size ≤ gb; omega) _).setCell (by show w.heap.size ≤ gb; omega) _).setCell (by show w.heap.size ≤ gb; omega) _).setCell (by show w.heap.size ≤ gb; omega) _, ((((((hbd.far (by show w.heap.size ≠ gb; omega) _).far (by show w.heap.size ≠ gb; omega) _).far (by show w.heap.size ≠ gb; omega) _).far (by show w.heap.size ≠ gb; omega) _).far (by show w.heap.size ≠ gb; omega) _).far (by show w.heap.size ≠ gb; omega) _).far (by show w.heap.size ≠ gb; omega) _⟩
        simp only [Array.toList_setIfInBounds]
        rw [show (n + (k + 1)) * 7 = (n + k) * 7 + 7 by omega, take_set7 _ _ _ _ _ _ _ (by rw [Array.length_toList, HS.out]; omega), HT.out, marks, List.append_assoc]
        rfl
      case measure => simp [intOf]; omega
    · have hk' : k = 3 := by omega
      subst hk'
      go_wp2
      go_ret
      refine ⟨gb, cs, rfl, by omega, hblk, ?_, hbw⟩
      rw [← HT.out, List.take_of_length_le (by rw [Array.length_toList, HS.out]; omega)]
end Go.Proofs.Ytefechceoeeonaa

/- chaffkeep.spoil, of expressions and of rules. -/
namespace Go.Proofs.Ytefechceoeeonaa
open Go.RowKit Go.Maps
def spoiltN : ByteArray := ⟨#[115, 112, 111, 105, 108, 116]⟩

theorem only_setCellE {a w : World} {g i : Nat} (h : a.grownBy w (some g)) (u : Value) : a.grownBy (w.setCell ⟨g, i, none⟩ u) (some g) :=
  ⟨h.os, h.tape, h.output, by simpa [World.setCell] using h.size, fun k hk hne => (Below.heap_setCell w ⟨g, i, none⟩ u k (by rintro rfl; exact hne rfl)).trans (h.block k hk hne)⟩

set_option maxRecDepth 100000 in
set_option maxHeartbeats 4000000 in
theorem spoilE_any (g n m : Nat) (cs : Array Value) (w : World) (hb : Blk w g 38 cs) (hs : cs.size = m * 7) (hm : m ≤ 1759218604393) :
    Calls Try.prog 76 #[.slice (some ⟨g, 0, none⟩) n m, .agg #[.int .i64 77, .int .u64 0, .int .u64 0, .int .u64 0, .int .u64 0, .string ⟨#[]⟩, .slice none 0 0]] w fun e w' => e = .returned (.tuple #[]) ∧ w.grownBy w' (some g) := by
  obtain ⟨i0, hi0, hz0, hz1, hz2⟩ := info_parts expr_info
  have HS := Lib.hid hs
  clear hs
  have hbx : Blk (w.alloc (.cells #[.int .i64 77, .int .u64 0, .int .u64 0, .int .u64 0, .int .u64 0, .string ⟨#[]⟩, .slice none 0 0] 38)) w.heap.size 38 #[.int .i64 77, .int .u64 0, .int .u64 0, .int .u64 0, .int .u64 0, .string ⟨#[]⟩, .slice none 0 0] := blk_at rfl
  have hb0 : Below w.heap.size w (w.alloc (.cells #[.int .i64 77, .int .u64 0, .int .u64 0, .int .u64 0, .int .u64 0, .string ⟨#[]⟩, .slice none 0 0] 38)) := (by repeat (first | exact Below.refl _ _ | assumption | refine Below.drew ?_ | refine below_drewN ?_ _ | refine Below.alloc ?_ (by first | omega | (simp; omega) | simp) _ | refine Below.setCell ?_ (by first | omega | (simp; omega) | simp) _))
  have hgl := hb.lt
  have hb2 := hb.below hb0 hgl
  have hw0 : w.grownBy (w.alloc (.cells #[.int .i64 77, .int .u64 0, .int .u64 0, .int .u64 0, .int .u64 0, .string ⟨#[]⟩, .slice none 0 0] 38)) (some g) := ⟨hb0.os, hb0.tape, hb0.output, hb0.size, fun k hk _ => hb0.block k hk⟩
  clear hb0 hb
  go_enter Try.func76, Try.ntmps76
  go_upto_region 1 with fail
  generalize (w.alloc (.cells #[.int .i64 77, .int .u64 0, .int .u64 0, .int .u64 0, .int .u64 0, .string ⟨#[]⟩, .slice none 0 0] 38)) = w0 at hbx hb2 hw0 ⊢
  generalize hbq : w.heap.size = bx at hbx hgl ⊢
  clear hbq
  go_wp2
  go_loopw [4, 11] (fun _ i wr => ∃ k : Nat, k ≤ m ∧ i = .int .i64 k ∧ (∃ cs, Blk wr g 38 cs ∧ cs.size = m * 7) ∧ Blk wr bx 38 #[.int .i64 77, .int .u64 0, .int .u64 0, .int .u64 0, .int .u64 0, .string ⟨#[]⟩, .slice none 0 0] ∧ w.grownBy wr (some g)) (fun _ i _ => m - (intOf i).toNat)
  case atStart => exact ⟨0, by omega, rfl, ⟨cs, hb2, HS.out⟩, hbx, hw0⟩
  case round =>
    clear hbx hw0 hb2
    obtain ⟨k, hk, rfl, ⟨cs, hblk, hs⟩, hbx, hgw⟩ := hrel
    have HS := Lib.hid hs
    clear hs
    by_cases hkm : k < m
    · have hg : ∀ i, i < 7 → ∃ u0, cs[k * 7 + i]? = some u0 := fun i hi => ⟨_, Array.getElem?_eq_getElem (by rw [HS.out]; omega)⟩
      have r0 := hbx.cell 0
      have r1 := hbx.cell 1
      have r2 := hbx.cell 2
      have r3 := hbx.cell 3
      have r4 := hbx.cell 4
      have r5 := hbx.cell 5
      have r6 := hbx.cell 6
      obtain ⟨o0, g0⟩ := hg 0 (by omega)
      obtain ⟨o1, g1⟩ := hg 1 (by omega)
      obtain ⟨o2, g2⟩ := hg 2 (by omega)
      obtain ⟨o3, g3⟩ := hg 3 (by omega)
      obtain ⟨o4, g4⟩ := hg 4 (by omega)
      obtain ⟨o5, g5⟩ := hg 5 (by omega)
      obtain ⟨o6, g6⟩ := hg 6 (by omega)
      have z0 : wr.cell? ⟨g, k * 7, none⟩ = some o0 := (hblk.cell _).trans g0
      have z1 : wr.cell? ⟨g, k * 7 + 1, none⟩ = some o1 := (hblk.cell _).trans g1
      have z2 : wr.cell? ⟨g, k * 7 + 2, none⟩ = some o2 := (hblk.cell _).trans g2
      have z3 : wr.cell? ⟨g, k * 7 + 3, none⟩ = some o3 := (hblk.cell _).trans g3
      have z4 : wr.cell? ⟨g, k * 7 + 4, none⟩ = some o4 := (hblk.cell _).trans g4
      have z5 : wr.cell? ⟨g, k * 7 + 5, none⟩ = some o5 := (hblk.cell _).trans g5
      have z6 : wr.cell? ⟨g, k * 7 + 6, none⟩ = some o6 := (hblk.cell _).trans g6
      have f0 := hblk.frozen (k * 7)
      have f1 := hblk.frozen (k * 7 + 1)
      have f2 := hblk.frozen (k * 7 + 2)
      have f3 := hblk.frozen (k * 7 + 3)
      have f4 := hblk.frozen (k * 7 + 4)
      have f5 := hblk.frozen (k * 7 + 5)
      have f6 := hblk.frozen (k * 7 + 6)
      clear hg g0 g1 g2 g3 g4 g5 g6
      go_wp2
      go_roundw
      case rel =>
        exact ⟨k + 1, by omega, by go_num, ⟨_, (((((((hblk.set_ (k * 7) _).set_ _ _).set_ _ _).set_ _ _).set_ _ _).set_ _ _).set_ _ _), by simp [HS.out]⟩, (((((((hbx.far (by show bx ≠ g; omega) _).far (by show bx ≠ g; omega) _).far (by show bx ≠ g; omega) _).far (by show bx ≠ g; omega) _).far (by show bx ≠ g; omega) _).far (by show bx ≠ g; omega) _).far (by show bx ≠ g; omega) _), (only_setCellE (only_setCellE (only_setCellE (only_setCellE (only_setCellE (only_setCellE (only_setCellE hgw _) _) _) _) _) _) _)⟩
      case measure => simp [intOf]; omega
    · go_wp2
      go_end0
      exact ⟨rfl, hgw⟩

set_option maxRecDepth 100000 in
set_option maxHeartbeats 4000000 in
theorem spoilR_any (g n m : Nat) (cs : Array Value) (w : World) (hb : Blk w g 44 cs) (hs : cs.size = m * 8) (hm : m ≤ 1466015503693) :
    Calls Try.prog 49 #[.slice (some ⟨g, 0, none⟩) n m, .agg #[.string spoiltN, .int .i64 0, .int .u64 0, .int .u64 0, .int .u64 0, .int .u64 0, .string ⟨#[]⟩, .slice none 0 0]] w fun e w' => e = .returned (.tuple #[]) ∧ w.grownBy w' (some g) := by
  obtain ⟨i0, hi0, hz0, hz1, hz2⟩ := info_parts rule_info
  have HS := Lib.hid hs
  clear hs
  have hbx : Blk (w.alloc (.cells #[.string spoiltN, .int .i64 0, .int .u64 0, .int .u64 0, .int .u64 0, .int .u64 0, .string ⟨#[]⟩, .slice none 0 0] 44)) w.heap.size 44 #[.string spoiltN, .int .i64 0, .int .u64 0, .int .u64 0, .int .u64 0, .int .u64 0, .string ⟨#[]⟩, .slice none 0 0] := blk_at rfl
  have hb0 : Below w.heap.size w (w.alloc (.cells #[.string spoiltN, .int .i64 0, .int .u64 0, .int .u64 0, .int .u64 0, .int .u64 0, .string ⟨#[]⟩, .slice none 0 0] 44)) := (by repeat (first | exact Below.refl _ _ | assumption | refine Below.drew ?_ | refine below_drewN ?_ _ | refine Below.alloc ?_ (by first | omega | (simp; omega) | simp) _ | refine Below.setCell ?_ (by first | omega | (simp; omega) | simp) _))
  have hgl := hb.lt
  have hb2 := hb.below hb0 hgl
  have hw0 : w.grownBy (w.alloc (.cells #[.string spoiltN, .int .i64 0, .int .u64 0, .int .u64 0, .int .u64 0, .int .u64 0, .string ⟨#[]⟩, .slice none 0 0] 44)) (some g) := ⟨hb0.os, hb0.tape, hb0.output, hb0.size, fun k hk _ => hb0.block k hk⟩
  clear hb0 hb
  go_enter Try.func49, Try.ntmps49
  go_upto_region 1 with fail
  generalize (w.alloc (.cells #[.string spoiltN, .int .i64 0, .int .u64 0, .int .u64 0, .int .u64 0, .int .u64 0, .string ⟨#[]⟩, .slice none 0 0] 44)) = w0 at hbx hb2 hw0 ⊢
  generalize hbq : w.heap.size = bx at hbx hgl ⊢
  clear hbq
  go_wp2
  go_loopw [4, 11] (fun _ i wr => ∃ k : Nat, k ≤ m ∧ i = .int .i64 k ∧ (∃ cs, Blk wr g 44 cs ∧ cs.size = m * 8) ∧ Blk wr bx 44 #[.string spoiltN, .int .i64 0, .int .u64 0, .int .u64 0, .int .u64 0, .int .u64 0, .string ⟨#[]⟩, .slice none 0 0] ∧ w.grownBy wr (some g)) (fun _ i _ => m - (intOf i).toNat)
  case atStart => exact ⟨0, by omega, rfl, ⟨cs, hb2, HS.out⟩, hbx, hw0⟩
  case round =>
    clear hbx hw0 hb2
    obtain ⟨k, hk, rfl, ⟨cs, hblk, hs⟩, hbx, hgw⟩ := hrel
    have HS := Lib.hid hs
    clear hs
    by_cases hkm : k < m
    · have hg : ∀ i, i < 8 → ∃ u0, cs[k * 8 + i]? = some u0 := fun i hi => ⟨_, Array.getElem?_eq_getElem (by rw [HS.out]; omega)⟩
      have r0 := hbx.cell 0
      have r1 := hbx.cell 1
      have r2 := hbx.cell 2
      have r3 := hbx.cell 3
      have r4 := hbx.cell 4
      have r5 := hbx.cell 5
      have r6 := hbx.cell 6
      have r7 := hbx.cell 7
      obtain ⟨o0, g0⟩ := hg 0 (by omega)
      obtain ⟨o1, g1⟩ := hg 1 (by omega)
      obtain ⟨o2, g2⟩ := hg 2 (by omega)
      obtain ⟨o3, g3⟩ := hg 3 (by omega)
      obtain ⟨o4, g4⟩ := hg 4 (by omega)
      obtain ⟨o5, g5⟩ := hg 5 (by omega)
      obtain ⟨o6, g6⟩ := hg 6 (by omega)
      obtain ⟨o7, g7⟩ := hg 7 (by omega)
      have z0 : wr.cell? ⟨g, k * 8, none⟩ = some o0 := (hblk.cell _).trans g0
      have z1 : wr.cell? ⟨g, k * 8 + 1, none⟩ = some o1 := (hblk.cell _).trans g1
      have z2 : wr.cell? ⟨g, k * 8 + 2, none⟩ = some o2 := (hblk.cell _).trans g2
      have z3 : wr.cell? ⟨g, k * 8 + 3, none⟩ = some o3 := (hblk.cell _).trans g3
      have z4 : wr.cell? ⟨g, k * 8 + 4, none⟩ = some o4 := (hblk.cell _).trans g4
      have z5 : wr.cell? ⟨g, k * 8 + 5, none⟩ = some o5 := (hblk.cell _).trans g5
      have z6 : wr.cell? ⟨g, k * 8 + 6, none⟩ = some o6 := (hblk.cell _).trans g6
      have z7 : wr.cell? ⟨g, k * 8 + 7, none⟩ = some o7 := (hblk.cell _).trans g7
      have f0 := hblk.frozen (k * 8)
      have f1 := hblk.frozen (k * 8 + 1)
      have f2 := hblk.frozen (k * 8 + 2)
      have f3 := hblk.frozen (k * 8 + 3)
      have f4 := hblk.frozen (k * 8 + 4)
      have f5 := hblk.frozen (k * 8 + 5)
      have f6 := hblk.frozen (k * 8 + 6)
      have f7 := hblk.frozen (k * 8 + 7)
      clear hg g0 g1 g2 g3 g4 g5 g6 g7
      go_wp2
      go_roundw
      case rel =>
        exact ⟨k + 1, by omega, by go_num, ⟨_, ((((((((hblk.set_ (k * 8) _).set_ _ _).set_ _ _).set_ _ _).set_ _ _).set_ _ _).set_ _ _).set_ _ _), by simp [HS.out]⟩, ((((((((hbx.far (by show bx ≠ g; omega) _).far (by show bx ≠ g; omega) _).far (by show bx ≠ g; omega) _).far (by show bx ≠ g; omega) _).far (by show bx ≠ g; omega) _).far (by show bx ≠ g; omega) _).far (by show bx ≠ g; omega) _).far (by show bx ≠ g; omega) _), (only_setCellE (only_setCellE (only_setCellE (only_setCellE (only_setCellE (only_setCellE (only_setCellE (only_setCellE hgw _) _) _) _) _) _) _) _)⟩
      case measure => simp [intOf]; omega
    · go_wp2
      go_end0
      exact ⟨rfl, hgw⟩

end Go.Proofs.Ytefechceoeeonaa

/- An expression whose rows of kids have room behind them, each in a block of its own; kids of such while they are appended. -/
namespace Go.Proofs.Ytefechceoeeonaa
open Go.RowKit Go.Maps

/-- an expression that rests on blocks from lo on to hi: the row of its kids, with three marks behind it, and those of its kids, one behind another -/
inductive RmE (W : World) : Nat → Nat → Ex → List Value → Prop
  | mk (lo hi bk : Nat) (k a b c d : Int) (t : ByteArray) (ks : List Ex) (rows : Nat → List Value) (L H : Nat → Nat) (cs : Array Value) :
      t.size ≤ maxLen → ks.length ≤ 1759218604390 → lo ≤ bk → bk < hi → Blk W bk 38 cs → cs.toList = kdF rows ks.length ++ marks 3 →
      (∀ i e, ks[i]? = some e → RmE W (L i) (H i) e (rows i)) → (∀ i, i < ks.length → lo ≤ L i ∧ H i ≤ bk) → (∀ i j, i < j → j < ks.length → H i ≤ L j) →
      RmE W lo hi (.mk k a b c d t ks) (exCells k a b c d t (some ⟨bk, 0, none⟩) ks.length (ks.length + 3))
section
variable {W W' : World} {lo hi lo' hi' B : Nat} {e : Ex} {cs : List Value}
theorem RmE.keep (h : RmE W lo hi e cs) : (∀ b, lo ≤ b → b < hi → W'.heap[b]? = W.heap[b]?) → RmE W' lo hi e cs := by
  induction h with
  | mk lo hi bk k a b c d t ks rows L H cs ht hn h1 h2 hb hcs hk hL hO ih =>
    intro hK
    exact .mk lo hi bk k a b c d t ks rows L H cs ht hn h1 h2 ((hK bk h1 h2).trans hb) hcs (fun i e he => ih i e he fun q q1 q2 => by
      have := hL i (getElem?_lt he)
      exact hK q (by omega) (by omega)) hL hO
theorem RmE.mono (h : RmE W lo hi e cs) (h1 : lo' ≤ lo) (h2 : hi ≤ hi') : RmE W lo' hi' e cs := by
  cases h with
  | mk _ _ bk k a b c d t ks rows L H cs ht hn h3 h4 hb hcs hk hL hO =>
    exact .mk lo' hi' bk k a b c d t ks rows L H cs ht hn (by omega) (by omega) hb hcs hk (fun i hi => by have := hL i hi; omega) hO
theorem RmE.len7 (h : RmE W lo hi e cs) : cs.length = 7 := by
  cases h
  rfl
theorem RmE.is (h : RmE W lo hi e cs) : hi ≤ B → ExIs W B e cs := by
  induction h with
  | mk lo hi bk k a b c d t ks rows L H cs ht hn h1 h2 hb hcs hk hL hO ih =>
    intro hB
    refine .mk k a b c d t ks _ _ rows ht (by omega) (by unfold maxLen; omega) (fun h => by cases h) (fun _ => ⟨_, rfl, by show bk < B; omega⟩) (fun i e he => ih i e he (by have := hL i (getElem?_lt he); omega)) ?_
    intro i e ad he hA j u hu
    injection hA with hA
    subst hA
    have h7 : ∀ q, q < ks.length → (rows q).length = 7 := fun q hq => (hk q _ (List.getElem?_eq_getElem hq)).len7
    have := kdF_get h7 (getElem?_lt he) hu
    rw [add_add', cell_add, hb.cell, ← Array.getElem?_toList, hcs, List.getElem?_append_left (getElem?_lt this)]
    exact this
end

/-- kids with room, in a row of one's own -/
structure RKids (base : Nat) (W : World) (es : List Ex) (V : Option Addr) (c : Nat) (rows : Nat → List Value) (L H : Nat → Nat) : Prop where
  own : W.ownsRow base 38 7 (.slice V es.length c) es.length (kdF rows es.length)
  kid : ∀ i e, es[i]? = some e → RmE W (L i) (H i) e (rows i)
  le : ∀ i, i < es.length → base ≤ L i ∧ H i ≤ W.heap.size
  ord : ∀ i j, i < j → j < es.length → H i ≤ L j
  apart : ∀ i q, i < es.length → (Value.slice V es.length c).ownBlock = some q → q < L i ∨ H i ≤ q
section
variable {base : Nat} {W W' : World} {es : List Ex} {V : Option Addr} {c : Nat} {rows : Nat → List Value} {L H : Nat → Nat}
theorem RKids.nil (base : Nat) (W : World) : RKids base W [] none 0 (fun _ => []) (fun _ => 0) (fun _ => 0) :=
  ⟨World.ownsRow_nil _ _ _ _, fun i e h => by simp at h, fun i h => by simp at h, fun i j _ h => by simp at h, fun i q h => by simp at h⟩
theorem RKids.below (h : RKids base W es V c rows L H) (hb : Below W.heap.size W W') : RKids base W' es V c rows L H :=
  ⟨own_below h.own hb, fun i e he => (h.kid i e he).keep fun q _ q2 => hb.block q (by have := h.le i (getElem?_lt he); omega), fun i hi => by have := h.le i hi; have := hb.size; omega, h.ord, h.apart⟩
theorem RKids.far (h : RKids base W es V c rows L H) {k : Nat} (hk : k < base) (i : Nat) (u : Value) : RKids base (W.setCell ⟨k, i, none⟩ u) es V c rows L H :=
  ⟨own_far h.own ⟨rfl, rfl, rfl, by simp [World.setCell], fun q hq hne => Below.heap_setCell W ⟨k, i, none⟩ u q (by rintro rfl; exact hne rfl)⟩ hk,
    fun j e he => (h.kid j e he).keep fun q q1 _ => Below.heap_setCell W ⟨k, i, none⟩ u q (by have := h.le j (getElem?_lt he); show q ≠ k; omega),
    fun i hi => by simpa [World.setCell] using h.le i hi, h.ord, h.apart⟩
theorem RKids.len7 (h : RKids base W es V c rows L H) : ∀ i, i < es.length → (rows i).length = 7 := fun i hi => (h.kid i _ (List.getElem?_eq_getElem hi)).len7
theorem RKids.old (h : RKids base W es V c rows L H) : ∀ q, (Value.slice V es.length c).ownBlock = some q → q < W.heap.size := fun q hq => (h.own.lt q hq).2
theorem RKids.one (h : RKids base W es V c rows L H) : ∀ u ∈ kdF rows es.length, u.oneCell' = true := by
  have hall : ∀ n, n ≤ es.length → ∀ u ∈ kdF rows n, u.oneCell' = true := by
    intro n
    induction n with
    | zero => intro _ u hu; simp [kdF] at hu
    | succ n ih =>
      intro hn u hu
      rw [kdF, List.mem_append] at hu
      rcases hu with hu | hu
      · exact ih (by omega) u hu
      · exact ex_one' ((h.kid n _ (List.getElem?_eq_getElem hn)).is (Nat.le_refl _)) u hu
  exact hall _ (Nat.le_refl _)
theorem RKids.reads (h : RKids base W es V c rows L H) : Reads W W.heap.size 7 V es.length (kdF rows es.length) ∧ (V = none → c = 0) := by
  have hl := kdF_len h.len7
  have ho := h.own
  have hlt := ho.lt
  rcases ho.2 with ⟨h1, h2⟩ | ⟨g, cap, cur, hv, h3, h4, h5, h6, _⟩
  · injection h1 with e1 e2 e3
    exact ⟨⟨hl, fun h0 => by omega⟩, fun _ => e3⟩
  · injection hv with e1 e2 e3
    subst e1
    exact ⟨⟨hl, fun _ => ⟨_, rfl, (hlt g rfl).2, fun j u hu => ho.cells rfl j u hu⟩⟩, fun h => by cases h⟩
/-- one kid more -/
theorem RKids.push {V' : Option Addr} {c' lo : Nat} {e : Ex} {r : List Value} (h : RKids base W es V c rows L H) (hlo : base ≤ lo) (hold : ∀ q, (Value.slice V es.length c).ownBlock = some q → q < lo) (hprev : ∀ i, i < es.length → H i ≤ lo) (hE : RmE W lo W.heap.size e r)
    (hown : W'.ownsRow base 38 7 (.slice V' (es.length + 1) c') (es.length + 1) (kdF rows es.length ++ r)) (hg : W.grownBy W' (Value.slice V es.length c).ownBlock)
    (hat : (Value.slice V' (es.length + 1) c').ownBlock = (Value.slice V es.length c).ownBlock ∨ (Value.slice V' (es.length + 1) c').ownBlock = some W.heap.size) :
    RKids base W' (es ++ [e]) V' c' (fun i => if i = es.length then r else rows i) (fun i => if i = es.length then lo else L i) (fun i => if i = es.length then W.heap.size else H i) := by
  have hl : (es ++ [e]).length = es.length + 1 := by simp
  have hz := hg.size
  constructor
  · rw [hl, kdF, if_pos rfl, kdF_same (rows' := rows) fun i hi => if_neg (by omega)]
    exact hown
  · intro i x hx
    by_cases hi : i < es.length
    · rw [List.getElem?_append_left hi] at hx
      have hle := h.le i hi
      have hap := h.apart i
      simp only [if_neg (show ¬ i = es.length by omega)]
      exact (h.kid i x hx).keep fun q q1 q2 => hg.block q (by omega) fun e => by have := hap q hi e.symm; omega
    · have hi' : i = es.length := by have := getElem?_lt hx; simp at this; omega
      subst hi'
      simp at hx
      subst hx
      simp only [if_true]
      exact hE.keep fun q q1 q2 => hg.block q q2 fun e => by have := hold q e.symm; omega
  · intro i hi
    rw [hl] at hi
    by_cases hi' : i = es.length
    · simp only [if_pos hi']; omega
    · have := h.le i (by omega)
      simp only [if_neg hi']; omega
  · intro i j hij hj
    rw [hl] at hj
    by_cases hj' : j = es.length
    · simp only [if_pos hj', if_neg (show ¬ i = es.length by omega)]
      exact hprev i (by omega)
    · simp only [if_neg hj', if_neg (show ¬ i = es.length by omega)]
      exact h.ord i j hij (by omega)
  · intro i q hi hq
    rw [hl] at hi hq
    by_cases hi' : i = es.length
    · simp only [if_pos hi']
      rcases hat with h1 | h1
      · rw [h1] at hq
        exact .inl (hold q hq)
      · rw [h1] at hq
        injection hq with hq
        exact .inr (by omega)
    · simp only [if_neg hi']
      rcases hat with h1 | h1
      · rw [h1] at hq
        exact h.apart i q (by omega) hq
      · rw [h1] at hq
        injection hq with hq
        have := h.le i (by omega)
        exact .inr (by omega)
/-- the node of these kids, when they were given room -/
theorem RKids.node (h : RKids base W es V c rows L H) (hb : Below W.heap.size W W') (k a b c' d : Int) (t : ByteArray) (ht : t.size ≤ maxLen) (hn : es.length ≤ 1759218604390) {bk : Nat} {cs : Array Value} (hbk : W.heap.size ≤ bk) (hB : base ≤ W.heap.size) (hblk : Blk W' bk 38 cs) (hcs : cs.toList = kdF rows es.length ++ marks 3) :
    RmE W' base W'.heap.size (.mk k a b c' d t es) (exCells k a b c' d t (some ⟨bk, 0, none⟩) es.length (es.length + 3)) :=
  .mk base _ bk k a b c' d t es rows L H cs ht hn (by omega) hblk.lt hblk hcs (h.below hb).kid (fun i hi => by have := h.le i hi; omega) h.ord
end
/-- no node has more kids than a row with room may have -/
inductive SmE : Ex → Prop
  | mk (k a b c d : Int) (t : ByteArray) (ks : List Ex) : ks.length ≤ 1759218604390 → (∀ e ∈ ks, SmE e) → SmE (.mk k a b c d t ks)
def RmQ (f : Ex) (w : World) (r : Ending) (w' : World) : Prop := (∃ cs, r = .returned (.agg cs.toArray) ∧ RmE w' w.heap.size w'.heap.size f cs) ∧ Below w.heap.size w w'
/-- while kids are made -/
structure CpR (k a b c d : Int) (t : ByteArray) (ks : List Ex) (A : Option Addr) (cp : Nat) (w : World) (V : Option Addr) (cv : Nat) (rows : Nat → List Value) (L H : Nat → Nat) (j : Nat) (W : World) : Prop where
  bel : Below w.heap.size w W
  box : Blk W w.heap.size 38 #[.int .i64 k, .int .u64 a, .int .u64 b, .int .u64 c, .int .u64 d, .string t, .slice A ks.length cp]
  res : Blk W (w.heap.size + 1) 38 #[.int .i64 0, .int .u64 0, .int .u64 0, .int .u64 0, .int .u64 0, .string ⟨#[]⟩, .slice none 0 0]
  out : Blk W (w.heap.size + 1 + 1) 38 #[.int .i64 k, .int .u64 a, .int .u64 b, .int .u64 c, .int .u64 d, .string t, .slice V j cv]
  kids : RKids (w.heap.size + 3) W (ks.take j) V cv rows L H
section
variable {k a b c d : Int} {t : ByteArray} {ks : List Ex} {A : Option Addr} {cp : Nat} {w : World} {V : Option Addr} {cv : Nat} {rows : Nat → List Value} {L H : Nat → Nat} {j : Nat} {W W' : World}
theorem CpR.below (h : CpR k a b c d t ks A cp w V cv rows L H j W) (hb : Below W.heap.size W W') : CpR k a b c d t ks A cp w V cv rows L H j W' :=
  ⟨h.bel.trans (hb.mono h.bel.size), h.box.below hb h.box.lt, h.res.below hb h.res.lt, h.out.below hb h.out.lt, h.kids.below hb⟩
theorem CpR.push {V' : Option Addr} {c' lo : Nat} {e : Ex} {r : List Value} (h : CpR k a b c d t ks A cp w V cv rows L H j W) (he : ks[j]? = some e) (hlo : w.heap.size + 3 ≤ lo) (hold : ∀ q, (Value.slice V j cv).ownBlock = some q → q < lo) (hprev : ∀ i, i < j → H i ≤ lo) (hE : RmE W lo W.heap.size e r)
    (hown : W'.ownsRow (w.heap.size + 3) 38 7 (.slice V' (j + 1) c') (j + 1) (kdF rows j ++ r)) (hg : W.grownBy W' (Value.slice V j cv).ownBlock)
    (hat : (Value.slice V' (j + 1) c').ownBlock = (Value.slice V j cv).ownBlock ∨ (Value.slice V' (j + 1) c').ownBlock = some W.heap.size) :
    CpR k a b c d t ks A cp w V' c' (fun i => if i = j then r else rows i) (fun i => if i = j then lo else L i) (fun i => if i = j then W.heap.size else H i) (j + 1) (W'.setCell ⟨w.heap.size + 1 + 1, 6, none⟩ (.slice V' (j + 1) c')) := by
  have hjl := getElem?_lt he
  have hl : (ks.take j).length = j := by simp; omega
  have hne : ∀ b, b < w.heap.size + 3 → some b ≠ (Value.slice V j cv).ownBlock := fun b hb e => by
    have := h.kids.own.lt b (by rw [hl]; exact e.symm)
    omega
  have hlow : Below w.heap.size W W' := ⟨hg.os, hg.tape, hg.output, hg.size, fun q hq => hg.block q (by have := h.bel.size; omega) (hne q (by omega))⟩
  have hk := h.kids.push (V' := V') (c' := c') (lo := lo) (e := e) (r := r) hlo (by rw [hl]; exact hold) (by rw [hl]; exact hprev) hE (by rw [hl]; exact hown) (by rw [hl]; exact hg) (by rw [hl]; exact hat)
  rw [hl] at hk
  refine ⟨(h.bel.trans hlow).setCell (by simp; omega) _, ((h.box.grown hg (hne _ (by omega))).far (by simp; omega) _), ((h.res.grown hg (hne _ (by omega))).far (by simp) _), ((h.out.grown hg (hne _ (by omega))).set_ 6 _), ?_⟩
  rw [take_succ_of he]
  exact hk.far (by omega) _ _
end
end Go.Proofs.Ytefechceoeeonaa

/- chaffkeep.roomyExpr: an expression whose rows of kids have room behind them. -/
namespace Go.Proofs.Ytefechceoeeonaa
open Go.RowKit Go.Maps

theorem RmE.res7 {W : World} {e : Ex} {cs : List Value} {lo B k : Nat} (h : RmE W lo W.heap.size e cs) (hk : k < lo) (hB : B ≤ lo) (u0 u1 u2 u3 u4 u5 u6 : Value) : RmE (((((((W.setCell ⟨k, 0, none⟩ u0).setCell ⟨k, 1, none⟩ u1).setCell ⟨k, 2, none⟩ u2).setCell ⟨k, 3, none⟩ u3).setCell ⟨k, 4, none⟩ u4).setCell ⟨k, 5, none⟩ u5).setCell ⟨k, 6, none⟩ u6) B
    (((((((W.setCell ⟨k, 0, none⟩ u0).setCell ⟨k, 1, none⟩ u1).setCell ⟨k, 2, none⟩ u2).setCell ⟨k, 3, none⟩ u3).setCell ⟨k, 4, none⟩ u4).setCell ⟨k, 5, none⟩ u5).setCell ⟨k, 6, none⟩ u6).heap.size e cs := by
  rw [size_set7]
  refine (h.keep fun q q1 _ => ?_).mono hB (Nat.le_refl _)
  have hne : q ≠ k := by omega
  exact (Below.heap_setCell _ ⟨k, 6, none⟩ u6 q hne).trans ((Below.heap_setCell _ ⟨k, 5, none⟩ u5 q hne).trans ((Below.heap_setCell _ ⟨k, 4, none⟩ u4 q hne).trans ((Below.heap_setCell _ ⟨k, 3, none⟩ u3 q hne).trans ((Below.heap_setCell _ ⟨k, 2, none⟩ u2 q hne).trans ((Below.heap_setCell _ ⟨k, 1, none⟩ u1 q hne).trans (Below.heap_setCell _ ⟨k, 0, none⟩ u0 q hne))))))
theorem RmE.set1 {W : World} {e : Ex} {cs : List Value} {lo k : Nat} (h : RmE W lo W.heap.size e cs) (hk : k < lo) (i : Nat) (u : Value) : RmE (W.setCell ⟨k, i, none⟩ u) lo (W.setCell ⟨k, i, none⟩ u).heap.size e cs := by
  rw [show (W.setCell ⟨k, i, none⟩ u).heap.size = W.heap.size by simp [World.setCell]]
  exact h.keep fun q q1 _ => Below.heap_setCell _ ⟨k, i, none⟩ u q (by show q ≠ k; omega)

set_option maxRecDepth 100000 in
set_option maxHeartbeats 8000000 in
theorem roomyExpr_any (e : Ex) : SmE e → ∀ (cs : List Value) (w : World), ExIs w w.heap.size e cs → Calls Try.prog 41 #[.agg cs.toArray] w (RmQ e w) := by
  refine Ex.ind (P := fun e => SmE e → ∀ (cs : List Value) (w : World), ExIs w w.heap.size e cs → Calls Try.prog 41 #[.agg cs.toArray] w (RmQ e w)) ?_ e
  intro k a b c d t ks ih h8 cs w hE
  cases h8 with
  | mk _ _ _ _ _ _ _ hk8 h8k =>
  obtain ⟨htl, A, cp, rfl, hkc, hcm, hnil⟩ := hE.shape
  obtain ⟨i0, hi0, hz0, hz1, hz2⟩ := info_parts expr_info
  have hcall : ∀ (j : Nat) (k' a' b' c' d' : Int) (t' : ByteArray) (ks' : List Ex) (A' : Option Addr) (cp' : Nat) (W : World), Below w.heap.size w W → ks[j]? = some (.mk k' a' b' c' d' t' ks') → ExIs w w.heap.size (.mk k' a' b' c' d' t' ks') (exCells k' a' b' c' d' t' A' ks'.length cp') →
      Calls Try.prog 41 #[.agg #[.int .i64 k', .int .u64 a', .int .u64 b', .int .u64 c', .int .u64 d', .string t', .slice A' ks'.length cp']] W (RmQ (.mk k' a' b' c' d' t' ks') W) := fun j k' a' b' c' d' t' ks' A' cp' W hW hej hx =>
    ih _ (List.mem_of_getElem? hej) (h8k _ (List.mem_of_getElem? hej)) _ W (hx.grow hW)
  have HC := Lib.hid hcall
  have HE := Lib.hid hE
  have HQ : Hid (∀ W' cs', RmE W' w.heap.size W'.heap.size (.mk k a b c d t ks) cs' → Below w.heap.size w W' → RmQ (.mk k a b c d t ks) w (.returned (.agg cs'.toArray)) W') := fun W' cs' h1 h2 => ⟨⟨cs', rfl, h1⟩, h2⟩
  generalize RmQ (.mk k a b c d t ks) w = Q at HQ ⊢
  clear ih h8k hcall hE
  unfold exCells
  unfold maxLen at hcm
  go_enter Try.func41, Try.ntmps41
  go_wp2
  go_loopw [11] (fun i wr => ∃ j : Nat, j ≤ ks.length ∧ i = .int .i64 j ∧ ∃ V cv rows Lo Hi, CpR k a b c d t ks A cp w V cv rows Lo Hi j wr) (fun i _ => ks.length - (intOf i).toNat)
  case atStart =>
    refine ⟨0, by omega, rfl, none, 0, fun _ => [], fun _ => 0, fun _ => 0, (by repeat (first | exact Below.refl _ _ | assumption | refine Below.drew ?_ | refine below_drewN ?_ _ | refine Below.alloc ?_ (by first | omega | (simp; omega) | simp) _ | refine Below.setCell ?_ (by first | omega | (simp; omega) | simp) _)), ((blk_at rfl).alloc _).alloc _, (blk_at (by simp)).alloc _, blk_at (by simp), RKids.nil _ _⟩
  case round =>
    obtain ⟨j, hj, rfl, V, cv, rows, Lo, Hi, hI⟩ := hrel
    have hbw := hI.bel
    have hzw := hbw.size
    by_cases hjn : j < ks.length
    · obtain ⟨ad, k', a', b', c', d', t', ks', A', cp', rfl, hab, hej, hx, hS⟩ := HE.out.kid hjn
      have hk := fun (q : Addr) (hq : q.block = (ad.add (j * 7)).block) => hbw.cell (p := q) (by rw [hq, add_block]; omega)
      have y0 := (hk _ rfl).trans hS.c0
      have y1 := (hk ⟨_, _, none⟩ rfl).trans hS.c1
      have y2 := (hk ⟨_, _, none⟩ rfl).trans hS.c2
      have y3 := (hk ⟨_, _, none⟩ rfl).trans hS.c3
      have y4 := (hk ⟨_, _, none⟩ rfl).trans hS.c4
      have y5 := (hk ⟨_, _, none⟩ rfl).trans hS.c5
      have y6 := (hk ⟨_, _, none⟩ rfl).trans hS.c6
      have had1 : ad.block < wr.heap.size := by omega
      have hjl : (j : Int) < (ks.length : Int) := by omega
      clear hk hS
      have hC0 : KdC (w.heap.size + 1 + 1) wr.heap.size #[.int .i64 k, .int .u64 a, .int .u64 b, .int .u64 c, .int .u64 d, .string t, .slice V j cv] #[.int .i64 k', .int .u64 a', .int .u64 b', .int .u64 c', .int .u64 d', .string t', .slice A' ks'.length cp'] (wr.alloc (.cells #[.int .i64 k', .int .u64 a', .int .u64 b', .int .u64 c', .int .u64 d', .string t', .slice A' ks'.length cp'] 38)) := ⟨hI.out.alloc _, blk_at rfl⟩
      have hI1 := hI.below ((Below.refl _ wr).alloc (Nat.le_refl _) (.cells #[.int .i64 k', .int .u64 a', .int .u64 b', .int .u64 c', .int .u64 d', .string t', .slice A' ks'.length cp'] 38))
      have hold : ∀ q, (Value.slice V j cv).ownBlock = some q → q < wr.heap.size := fun q hq => hI.kids.old q (by simpa [Nat.min_eq_left hj] using hq)
      have hbase : w.heap.size + 3 ≤ wr.heap.size := by have := hI.out.lt; omega
      have HOLD := Lib.hid hold
      have HEJ := Lib.hid hej
      have HX := Lib.hid hx
      clear hej hx hold hI
      go_upto_region 6 with fail
      have hkne : some wr.heap.size ≠ (Value.slice V j cv).ownBlock := fun e => by have := HOLD.out _ e.symm; omega
      have hone : some (w.heap.size + 1 + 1) ≠ (Value.slice V j cv).ownBlock := fun e => by have h1 := hI1.kids.own.lt (w.heap.size + 1 + 1) (by simpa [Nat.min_eq_left hj] using e.symm); omega
      have hbase1 : w.heap.size + 3 ≤ (wr.alloc (.cells #[.int .i64 k', .int .u64 a', .int .u64 b', .int .u64 c', .int .u64 d', .string t', .slice A' ks'.length cp'] 38)).heap.size := by simp; omega
      have hold1 : ∀ q, (Value.slice V j cv).ownBlock = some q → q < (wr.alloc (.cells #[.int .i64 k', .int .u64 a', .int .u64 b', .int .u64 c', .int .u64 d', .string t', .slice A' ks'.length cp'] 38)).heap.size := fun q hq => by have := HOLD.out q hq; simp; omega
      have hprev1 : ∀ i, i < j → Hi i ≤ (wr.alloc (.cells #[.int .i64 k', .int .u64 a', .int .u64 b', .int .u64 c', .int .u64 d', .string t', .slice A' ks'.length cp'] 38)).heap.size := fun i hi => (hI1.kids.le i (by simp; omega)).2
      generalize (wr.alloc (.cells #[.int .i64 k', .int .u64 a', .int .u64 b', .int .u64 c', .int .u64 d', .string t', .slice A' ks'.length cp'] 38)) = w11 at hC0 hI1 hbase1 hold1 hprev1 ⊢
      generalize wr.heap.size = kb at hC0 hkne ⊢
      clear y0 y1 y2 y3 y4 y5 y6 had1 hbw
      refine wp_region_l (KdC (w.heap.size + 1 + 1) kb #[.int .i64 k, .int .u64 a, .int .u64 b, .int .u64 c, .int .u64 d, .string t, .slice V j cv] #[.int .i64 k', .int .u64 a', .int .u64 b', .int .u64 c', .int .u64 d', .string t', .slice A' ks'.length cp']) (· == 7) (by kernel_rfl) ?_
      have hC := hC0.below (Below.refl _ _).drew
      have hI := hI1.below (Below.refl _ _).drew
      have hbd : (w11.drew).heap.size = w11.heap.size := rfl
      rw [← hbd] at hbase1 hold1 hprev1
      generalize w11.drew = wd at hC hI hbase1 hold1 hprev1 ⊢
      clear hC0 hI1 hbd
      apply L.rd (i := 0) rfl (by kernel_rfl) hC rfl
      · intro W hW
        skip
        unfold readW
        go_simp
        first | rfl | exact ⟨rfl, rfl⟩
      first | simp only [Act.put, List.setIfInBounds_toArray, List.set_cons_succ, List.set_cons_zero] | skip
      apply L.rd (i := 1) rfl (by kernel_rfl) hC rfl
      · intro W hW
        have n0 := hW.out.cell 6
        unfold readW
        go_simp
        first | rfl | exact ⟨rfl, rfl⟩
      first | simp only [Act.put, List.setIfInBounds_toArray, List.set_cons_succ, List.set_cons_zero] | skip
      apply L.rd (i := 2) rfl (by kernel_rfl) hC rfl
      · intro W hW
        have r0 := hW.kid.cell 0; have r1 := hW.kid.cell 1; have r2 := hW.kid.cell 2; have r3 := hW.kid.cell 3; have r4 := hW.kid.cell 4; have r5 := hW.kid.cell 5; have r6 := hW.kid.cell 6
        unfold readW
        go_simp
        first | rfl | exact ⟨rfl, rfl⟩
      first | simp only [Act.put, List.setIfInBounds_toArray, List.set_cons_succ, List.set_cons_zero] | skip
      apply L.one (i := 3) rfl (by kernel_rfl) rfl
      unfold stepT
      go_simp
      go_at_call 41
      refine (HC.out _ _ _ _ _ _ _ _ _ _ _ hI.bel HEJ.out HX.out).mono ?_
      rintro e wn ⟨⟨rc, rfl, hF⟩, hbn⟩
      have hC := hC.below hbn
      have hI := hI.below hbn
      have hbase2 := Nat.le_trans hbase1 hbn.size
      clear hbn
      have hrc := ex_one' (hF.is (Nat.le_refl _))
      obtain ⟨k1, a1, b1, c1, d1, t1, A1, n1, cp1, rfl⟩ := Ex.parts _ (hF.is (Nat.le_refl _))
      refine ⟨_, rfl, hC, ?_⟩
      first | simp only [Act.put, List.setIfInBounds_toArray, List.set_cons_succ, List.set_cons_zero] | skip
      apply L.one (i := 4) rfl (by kernel_rfl) rfl
      unfold stepT
      go_simp
      have hF1 : RmE (wn.alloc (.cells #[.int .i64 k1, .int .u64 a1, .int .u64 b1, .int .u64 c1, .int .u64 d1, .string t1, .slice A1 n1 cp1] 38)) wd.heap.size (wn.alloc (.cells #[.int .i64 k1, .int .u64 a1, .int .u64 b1, .int .u64 c1, .int .u64 d1, .string t1, .slice A1 n1 cp1] 38)).heap.size _ _ := (hF.keep (W' := wn.alloc (.cells #[.int .i64 k1, .int .u64 a1, .int .u64 b1, .int .u64 c1, .int .u64 d1, .string t1, .slice A1 n1 cp1] 38)) fun q _ hq => Below.heap_alloc wn _ q hq).mono (Nat.le_refl _) (by simp)
      have hkb : Blk (wn.alloc (.cells #[.int .i64 k1, .int .u64 a1, .int .u64 b1, .int .u64 c1, .int .u64 d1, .string t1, .slice A1 n1 cp1] 38)) wn.heap.size 38 #[.int .i64 k1, .int .u64 a1, .int .u64 b1, .int .u64 c1, .int .u64 d1, .string t1, .slice A1 n1 cp1] := blk_at rfl
      have hC := hC.below ((Below.refl _ _).alloc (Nat.le_refl _) (.cells #[.int .i64 k1, .int .u64 a1, .int .u64 b1, .int .u64 c1, .int .u64 d1, .string t1, .slice A1 n1 cp1] 38))
      have hI := hI.below ((Below.refl _ _).alloc (Nat.le_refl _) (.cells #[.int .i64 k1, .int .u64 a1, .int .u64 b1, .int .u64 c1, .int .u64 d1, .string t1, .slice A1 n1 cp1] 38))
      have hbase3 : w.heap.size + 3 ≤ (wn.alloc (.cells #[.int .i64 k1, .int .u64 a1, .int .u64 b1, .int .u64 c1, .int .u64 d1, .string t1, .slice A1 n1 cp1] 38)).heap.size := by simp; omega
      generalize (wn.alloc (.cells #[.int .i64 k1, .int .u64 a1, .int .u64 b1, .int .u64 c1, .int .u64 d1, .string t1, .slice A1 n1 cp1] 38)) = wk at hC hI hkb hF1 hbase3 ⊢
      generalize wn.heap.size = nb at hkb ⊢
      clear hF hbase2
      refine ⟨hC, ?_⟩
      apply L.one (i := 5) rfl (by kernel_rfl) rfl
      refine stepT_append_at (.tmp 16) (.tmp 19) 36 rfl (w.heap.size + 3) 38 i0 _ 7 80 Try.underlying36 hi0 hz0 hz1 hz2 rfl (by decide) (.slice V j cv) j (kdF rows j) (by simp [Act.eval]) (by simpa [Nat.min_eq_left hj] using hI.kids.own) ⟨nb, 0, none⟩ 1 1 [.int .i64 k1, .int .u64 a1, .int .u64 b1, .int .u64 c1, .int .u64 d1, .string t1, .slice A1 n1 cp1] (by simp [Act.eval]) rfl (fun i u hu => by rw [cell_add]; exact (hkb.cell i).trans (by rw [List.getElem?_toArray]; exact hu)) hrc (by unfold maxLen; omega) (by omega) hbase3 ?_
      intro v' w3 hown hgr hat
      obtain ⟨V3, c3, rfl⟩ := own_form hown
      have hI3 := hI.push HEJ.out hbase1 hold1 hprev1 hF1 hown hgr hat
      have hC := hC.grown hgr hone hkne
      refine ⟨fun _ => hC, ?_⟩
      first | simp only [Act.put, List.setIfInBounds_toArray, List.set_cons_succ, List.set_cons_zero] | skip
      apply L.rd (i := 6) rfl (by kernel_rfl) hC rfl
      · intro W hW
        skip
        unfold readW
        go_simp
        first | rfl | exact ⟨rfl, rfl⟩
      first | simp only [Act.put, List.setIfInBounds_toArray, List.set_cons_succ, List.set_cons_zero] | skip
      have n0 := hC.out.cell 6
      have f0 := hC.out.frozen 6
      apply L.one (i := 7) rfl (by kernel_rfl) rfl
      unfold stepT
      go_simp
      refine L.done (by kernel_rfl) ?_
      have HI3 := Lib.hid hI3
      clear hI hI3 hC hown hgr hkb n0 f0 hat hF1 hold1 hprev1 hbase1 hbase3 hkne hone
      go_wp2
      go_roundw
      case rel => exact ⟨j + 1, by omega, by go_num, _, _, _, _, _, HI3.out⟩
      case measure => simp [intOf]; omega
    · obtain rfl : j = ks.length := by omega
      have hK := hI.kids
      rw [List.take_length] at hK
      have ho := hI.out
      have hrs := hI.res
      have hwz := hI.out.lt
      clear hI
      have n0 := ho.cell 6
      have f0 := ho.frozen 6
      have HN : Hid (∀ wn g gs, wr.heap.size ≤ g → Blk wn g 38 gs → gs.toList = kdF rows ks.length ++ marks 3 → Below wr.heap.size wr wn → RmE wn (w.heap.size + 3) wn.heap.size (.mk k a b c d t ks) (exCells k a b c d t (some ⟨g, 0, none⟩) ks.length (ks.length + 3))) := fun wn g gs h1 h2 h3 h4 => hK.node h4 k a b c d t htl hk8 h1 (by omega) h2 h3
      have HR := Lib.hid hK.reads
      have HO := Lib.hid hK.one
      clear hK
      go_upto_region 9 with (go_at_call 75; (refine (roomyE_any V ks.length cv _ wr.heap.size wr HR.out.1 HO.out (Nat.le_refl _) HR.out.2 hk8).mono ?_); rintro e wn ⟨g, gs, rfl, hg, hgb, hgs, hbn⟩; have hN := HN.out wn g gs hg hgb hgs hbn; have hC := ho.below hbn ho.lt; have f0 := hC.frozen 6; have n0 := hC.cell 6; have HS := Lib.hid hrs; have hrs := HS.out.below hbn HS.out.lt; have HB := Lib.hid hbw; have hbw := HB.out.trans (hbn.mono (by omega)); clear hgb hgs hg ho HS HB)
      have ho2 : Blk (wn.setCell ⟨w.heap.size + 1 + 1, 6, none⟩ (.slice (some ⟨g, 0, none⟩) ks.length (ks.length + 3))) (w.heap.size + 1 + 1) 38 #[.int .i64 k, .int .u64 a, .int .u64 b, .int .u64 c, .int .u64 d, .string t, .slice (some ⟨g, 0, none⟩) ks.length (ks.length + 3)] := hC.set_ 6 _
      have hrs2 := hrs.far (p := ⟨w.heap.size + 1 + 1, 6, none⟩) (by show w.heap.size + 1 ≠ w.heap.size + 1 + 1; omega) (.slice (some ⟨g, 0, none⟩) ks.length (ks.length + 3))
      have hN2 := hN.set1 (k := w.heap.size + 1 + 1) (by omega) 6 (.slice (some ⟨g, 0, none⟩) ks.length (ks.length + 3))
      have hb2 := hbw.setCell (p := ⟨w.heap.size + 1 + 1, 6, none⟩) (by show w.heap.size ≤ w.heap.size + 1 + 1; omega) (.slice (some ⟨g, 0, none⟩) ks.length (ks.length + 3))
      have HK := Lib.hid hN2
      clear hbw hrs hN hN2 hC hbn f0 n0 HR HO HN hwz
      generalize (wn.setCell ⟨w.heap.size + 1 + 1, 6, none⟩ (.slice (some ⟨g, 0, none⟩) ks.length (ks.length + 3))) = wf at ho2 hrs2 HK hb2 ⊢
      generalize (some (⟨g, 0, none⟩ : Addr)) = G at ho2 HK ⊢
      have x0 : wf.cell? ⟨w.heap.size + 1 + 1, 0, none⟩ = some (.int .i64 k) := ho2.cell 0; have x1 : wf.cell? ⟨w.heap.size + 1 + 1, 1, none⟩ = some (.int .u64 a) := ho2.cell 1; have x2 : wf.cell? ⟨w.heap.size + 1 + 1, 2, none⟩ = some (.int .u64 b) := ho2.cell 2; have x3 : wf.cell? ⟨w.heap.size + 1 + 1, 3, none⟩ = some (.int .u64 c) := ho2.cell 3; have x4 : wf.cell? ⟨w.heap.size + 1 + 1, 4, none⟩ = some (.int .u64 d) := ho2.cell 4; have x5 : wf.cell? ⟨w.heap.size + 1 + 1, 5, none⟩ = some (.string t) := ho2.cell 5; have x6 : wf.cell? ⟨w.heap.size + 1 + 1, 6, none⟩ = some (.slice G ks.length (ks.length + 3)) := ho2.cell 6
      clear ho2
      have yz0 : wf.cell? ⟨w.heap.size + 1, 0, none⟩ = some (.int .i64 0) := hrs2.cell 0; have yz1 : wf.cell? ⟨w.heap.size + 1, 1, none⟩ = some (.int .u64 0) := hrs2.cell 1; have yz2 : wf.cell? ⟨w.heap.size + 1, 2, none⟩ = some (.int .u64 0) := hrs2.cell 2; have yz3 : wf.cell? ⟨w.heap.size + 1, 3, none⟩ = some (.int .u64 0) := hrs2.cell 3; have yz4 : wf.cell? ⟨w.heap.size + 1, 4, none⟩ = some (.int .u64 0) := hrs2.cell 4; have yz5 : wf.cell? ⟨w.heap.size + 1, 5, none⟩ = some (.string ⟨#[]⟩) := hrs2.cell 5; have yz6 : wf.cell? ⟨w.heap.size + 1, 6, none⟩ = some (.slice none 0 0) := hrs2.cell 6; have yf0 := hrs2.frozen 0; have yf1 := hrs2.frozen 1; have yf2 := hrs2.frozen 2; have yf3 := hrs2.frozen 3; have yf4 := hrs2.frozen 4; have yf5 := hrs2.frozen 5; have yf6 := hrs2.frozen 6; have ye0 : (wf.setCell ⟨w.heap.size + 1, 0, none⟩ (.int .i64 k)).cell? ⟨w.heap.size + 1, 0, none⟩ = some (.int .i64 k) := (hrs2.set_ 0 _).cell 0; have ye1 : ((wf.setCell ⟨w.heap.size + 1, 0, none⟩ (.int .i64 k)).setCell ⟨w.heap.size + 1, 1, none⟩ (.int .u64 a)).cell? ⟨w.heap.size + 1, 1, none⟩ = some (.int .u64 a) := ((hrs2.set_ 0 _).set_ 1 _).cell 1; have ye2 : (((wf.setCell ⟨w.heap.size + 1, 0, none⟩ (.int .i64 k)).setCell ⟨w.heap.size + 1, 1, none⟩ (.int .u64 a)).setCell ⟨w.heap.size + 1, 2, none⟩ (.int .u64 b)).cell? ⟨w.heap.size + 1, 2, none⟩ = some (.int .u64 b) := (((hrs2.set_ 0 _).set_ 1 _).set_ 2 _).cell 2; have ye3 : ((((wf.setCell ⟨w.heap.size + 1, 0, none⟩ (.int .i64 k)).setCell ⟨w.heap.size + 1, 1, none⟩ (.int .u64 a)).setCell ⟨w.heap.size + 1, 2, none⟩ (.int .u64 b)).setCell ⟨w.heap.size + 1, 3, none⟩ (.int .u64 c)).cell? ⟨w.heap.size + 1, 3, none⟩ = some (.int .u64 c) := ((((hrs2.set_ 0 _).set_ 1 _).set_ 2 _).set_ 3 _).cell 3; have ye4 : (((((wf.setCell ⟨w.heap.size + 1, 0, none⟩ (.int .i64 k)).setCell ⟨w.heap.size + 1, 1, none⟩ (.int .u64 a)).setCell ⟨w.heap.size + 1, 2, none⟩ (.int .u64 b)).setCell ⟨w.heap.size + 1, 3, none⟩ (.int .u64 c)).setCell ⟨w.heap.size + 1, 4, none⟩ (.int .u64 d)).cell? ⟨w.heap.size + 1, 4, none⟩ = some (.int .u64 d) := (((((hrs2.set_ 0 _).set_ 1 _).set_ 2 _).set_ 3 _).set_ 4 _).cell 4; have ye5 : ((((((wf.setCell ⟨w.heap.size + 1, 0, none⟩ (.int .i64 k)).setCell ⟨w.heap.size + 1, 1, none⟩ (.int .u64 a)).setCell ⟨w.heap.size + 1, 2, none⟩ (.int .u64 b)).setCell ⟨w.heap.size + 1, 3, none⟩ (.int .u64 c)).setCell ⟨w.heap.size + 1, 4, none⟩ (.int .u64 d)).setCell ⟨w.heap.size + 1, 5, none⟩ (.string t)).cell? ⟨w.heap.size + 1, 5, none⟩ = some (.string t) := ((((((hrs2.set_ 0 _).set_ 1 _).set_ 2 _).set_ 3 _).set_ 4 _).set_ 5 _).cell 5; have ye6 : (((((((wf.setCell ⟨w.heap.size + 1, 0, none⟩ (.int .i64 k)).setCell ⟨w.heap.size + 1, 1, none⟩ (.int .u64 a)).setCell ⟨w.heap.size + 1, 2, none⟩ (.int .u64 b)).setCell ⟨w.heap.size + 1, 3, none⟩ (.int .u64 c)).setCell ⟨w.heap.size + 1, 4, none⟩ (.int .u64 d)).setCell ⟨w.heap.size + 1, 5, none⟩ (.string t)).setCell ⟨w.heap.size + 1, 6, none⟩ (.slice G ks.length (ks.length + 3))).cell? ⟨w.heap.size + 1, 6, none⟩ = some (.slice G ks.length (ks.length + 3)) := (((((((hrs2.set_ 0 _).set_ 1 _).set_ 2 _).set_ 3 _).set_ 4 _).set_ 5 _).set_ 6 _).cell 6
      go_wp2
      exact bodyPost_ret (v := .agg #[.int .i64 k, .int .u64 a, .int .u64 b, .int .u64 c, .int .u64 d, .string t, .slice G ks.length (ks.length + 3)]) (by simp [results, Try.results41, go_sem, ye0, ye1, ye2, ye3, ye4, ye5, ye6]) rfl (HQ.out _ _ (HK.out.res7 (by omega) (by omega) _ _ _ _ _ _ _) (below_set7 hb2 (by omega) _ _ _ _ _ _ _))
end Go.Proofs.Ytefechceoeeonaa

/- chaffkeep.roomy of rules (printed by genroomy.py). -/
namespace Go.Proofs.Ytefechceoeeonaa
open Go.RowKit Go.Maps

theorem take_set8 {l : List Value} {i : Nat} (u0 u1 u2 u3 u4 u5 u6 u7 : Value) (h : i + 8 ≤ l.length) : ((((((((l.set i u0).set (i + 1) u1).set (i + 2) u2).set (i + 3) u3).set (i + 4) u4).set (i + 5) u5).set (i + 6) u6).set (i + 7) u7).take (i + 8) = l.take i ++ [u0, u1, u2, u3, u4, u5, u6, u7] := by
  rw [show i + 8 = (i + 7) + 1 by omega, take_set _ (by simp; omega), show i + 7 = i + 7 from rfl, take_set7 _ _ _ _ _ _ _ (by omega)]
  simp
def markN : ByteArray := ⟨#[109, 97, 114, 107]⟩
def markR : List Value := [.string markN, .int .i64 0, .int .u64 0, .int .u64 0, .int .u64 0, .int .u64 0, .string ⟨#[]⟩, .slice none 0 0]
def marksR : Nat → List Value
  | 0 => []
  | k + 1 => marksR k ++ markR
theorem marksR_len : ∀ k, (marksR k).length = k * 8
  | 0 => rfl
  | k + 1 => by rw [marksR, List.length_append, marksR_len k]; show _ + 8 = _; omega
def zerosR (n : Nat) : Array Value := madeCells (Value.agg #[.string ⟨#[]⟩, .int .i64 0, .int .u64 0, .int .u64 0, .int .u64 0, .int .u64 0, .string ⟨#[]⟩, .slice none 0 0]).cells (n * 8)
theorem zerosR_size (n : Nat) : (zerosR n).size = n * 8 := by simp [zerosR, size_madeCells]

set_option maxRecDepth 100000 in
set_option maxHeartbeats 4000000 in
theorem roomyR_any (A : Option Addr) (n c : Nat) (xs : List Value) (B : Nat) (w : World) (hr : Reads w B 8 A n xs) (h1 : ∀ u ∈ xs, u.oneCell' = true) (hB : B ≤ w.heap.size) (hA : A = none → c = 0) (hn : n ≤ 1466015503690) :
    Calls Try.prog 42 #[.slice A n c, .agg #[.string markN, .int .i64 0, .int .u64 0, .int .u64 0, .int .u64 0, .int .u64 0, .string ⟨#[]⟩, .slice none 0 0]] w fun e w' =>
      ∃ g cs, e = .returned (.slice (some ⟨g, 0, none⟩) n (n + 3)) ∧ w.heap.size ≤ g ∧ Blk w' g 44 cs ∧ cs.toList = xs ++ marksR 3 ∧ Below w.heap.size w w' := by
  obtain ⟨i0, hi0, hz0, hz1, hz2⟩ := info_parts rule_info
  have HL := Lib.hid hr.len
  have hmk := fun W => made_run Try.underlying22 hi0 hz0 .i64 .i64 (Nat.zero_le (n + 3)) (by rw [hz2]; omega) (by omega) W
  rw [hz1] at hmk
  have hmk' : ∀ W : World, (Instr.makeSlice 22 (.int .i64 0) (.int .i64 ((n : Int) + 3))).run Try.prog W = .ok (.slice (some ⟨W.heap.size, 0, none⟩) 0 (n + 3)) (W.alloc (.cells (zerosR (n + 3)) 44)) := hmk
  clear hmk
  have hnone : A = none → n = 0 ∧ c = 0 := fun h => by
    refine ⟨?_, hA h⟩
    rcases Nat.eq_zero_or_pos n with h0 | h0
    · exact h0
    · obtain ⟨ad, h', _⟩ := hr.lies h0
      rw [h] at h'
      cases h'
  have HN := Lib.hid hnone
  clear hnone hA
  have hbx : Blk (w.alloc (.cells #[.string markN, .int .i64 0, .int .u64 0, .int .u64 0, .int .u64 0, .int .u64 0, .string ⟨#[]⟩, .slice none 0 0] 44)) w.heap.size 44 #[.string markN, .int .i64 0, .int .u64 0, .int .u64 0, .int .u64 0, .int .u64 0, .string ⟨#[]⟩, .slice none 0 0] := blk_at rfl
  have hb0 : Below w.heap.size w (w.alloc (.cells #[.string markN, .int .i64 0, .int .u64 0, .int .u64 0, .int .u64 0, .int .u64 0, .string ⟨#[]⟩, .slice none 0 0] 44)) := (by repeat (first | exact Below.refl _ _ | assumption | refine Below.drew ?_ | refine below_drewN ?_ _ | refine Below.alloc ?_ (by first | omega | (simp; omega) | simp) _ | refine Below.setCell ?_ (by first | omega | (simp; omega) | simp) _))
  have hsz0 : (w.alloc (.cells #[.string markN, .int .i64 0, .int .u64 0, .int .u64 0, .int .u64 0, .int .u64 0, .string ⟨#[]⟩, .slice none 0 0] 44)).heap.size = w.heap.size + 1 := by simp
  have hr0 := hr.alloc hB (.cells #[.string markN, .int .i64 0, .int .u64 0, .int .u64 0, .int .u64 0, .int .u64 0, .string ⟨#[]⟩, .slice none 0 0] 44)
  have HR0 := Lib.hid hr0
  clear hr hr0
  go_enter Try.func42, Try.ntmps42
  go_upto_region 1 with fail
  generalize (w.alloc (.cells #[.string markN, .int .i64 0, .int .u64 0, .int .u64 0, .int .u64 0, .int .u64 0, .string ⟨#[]⟩, .slice none 0 0] 44)) = w0 at hbx hb0 hsz0 HR0 ⊢
  have hgl0 : w.heap.size < w0.heap.size := by omega
  clear hsz0
  have C1 : Hid ((w0.alloc (.cells (zerosR (n + 3)) 44)).ownsRow w0.heap.size 44 8 (.slice (some ⟨w0.heap.size, 0, none⟩) 0 (n + 3)) 0 []) :=
    ⟨rfl, .inr ⟨_, _, zerosR (n + 3), rfl, Nat.le_refl _, blk_at rfl, by omega, by unfold maxLen; omega, by rw [zerosR_size], by simp⟩⟩
  have C3 : Hid (∀ ad, A = some ad → ∀ j u, xs[j]? = some u → (w0.alloc (.cells (zerosR (n + 3)) 44)).cell? (ad.add j) = some u) := by
    intro ad hA j u hu
    have hj := getElem?_lt hu
    have hn0 : 0 < n := by have := HL.out; omega
    obtain ⟨ad', e, _, hc⟩ := (HR0.out.alloc (by omega) (.cells (zerosR (n + 3)) 44)).lies hn0
    rw [hA] at e
    injection e with e
    rw [e]
    exact hc j u hu
  go_wp2_with (at_builtin; refine wpList_append_fits_any _ rfl _ _ _ rfl w0.heap.size 44 i0 8 Try.underlying22 hi0 hz1 w0.heap.size 0 (n + 3) [] rfl C1.out A n c xs rfl HL.out HN.out C3.out h1 (by omega) ?_; intro w1 hown1 hgrow)
  have hb1 : Below w.heap.size w w1 := (hb0.alloc (by omega) _).grown hgrow (by simp; omega) (fun k hk => by injection hk with hk; omega)
  have hbx1 : Blk w1 w.heap.size 44 #[.string markN, .int .i64 0, .int .u64 0, .int .u64 0, .int .u64 0, .int .u64 0, .string ⟨#[]⟩, .slice none 0 0] := (hbx.alloc _).grown hgrow (by intro e; injection e with e; omega)
  obtain ⟨cs0, hblk0, hs0, ht0⟩ : ∃ cs, Blk w1 w0.heap.size 44 cs ∧ cs.size = (n + 3) * 8 ∧ cs.toList.take ((n + 0) * 8) = xs ++ marksR 0 := by
    rcases hown1.2 with ⟨h, _⟩ | ⟨g, cap, cur, hv, hg, hh, h1, h2, h3, h4⟩
    · cases h
    · simp only [Value.slice.injEq, Option.some.injEq, Addr.mk.injEq] at hv
      obtain ⟨⟨rfl, _⟩, _, rfl⟩ := hv
      exact ⟨cur, hh, h3, by simpa [marksR] using h4⟩
  clear hown1 hgrow hmk' HR0 C1 C3 HN hbx hb0
  generalize w0.heap.size = gb at hblk0 hgl0 ⊢
  have hng : w.heap.size < w1.heap.size := hbx1.lt
  go_wp2
  go_loopw [6, 13] (fun _ i wr => ∃ k : Nat, k ≤ 3 ∧ i = .int .i64 k ∧ (∃ cs, Blk wr gb 44 cs ∧ cs.size = (n + 3) * 8 ∧ cs.toList.take ((n + k) * 8) = xs ++ marksR k) ∧ Below w.heap.size w wr ∧ Blk wr w.heap.size 44 #[.string markN, .int .i64 0, .int .u64 0, .int .u64 0, .int .u64 0, .int .u64 0, .string ⟨#[]⟩, .slice none 0 0]) (fun _ i _ => 3 - (intOf i).toNat)
  case atStart => exact ⟨0, by omega, rfl, ⟨cs0, hblk0, hs0, ht0⟩, hb1, hbx1⟩
  case round =>
    clear hb1 hbx1 hblk0 hs0 ht0 hng
    obtain ⟨k, hk, rfl, ⟨cs, hblk, hs, ht⟩, hbw, hbx⟩ := hrel
    have HT := Lib.hid ht
    have HS := Lib.hid hs
    clear ht hs
    by_cases hk3 : k < 3
    · have q1 : IntKind.i64.wrap ((n : Int) + 3) = ((n + 3 : Nat) : Int) := by rw [wrap_i64 _ (by omega) (by omega)]; omega
      have q2 : IntKind.i64.wrap ((n : Int) + (k : Int)) = ((n + k : Nat) : Int) := by rw [wrap_i64 _ (by omega) (by omega)]; omega
      have q4 : max ((n : Int) + 3) 0 = (n : Int) + 3 := by omega
      have q5 : (0 : Int) ≤ (n : Int) + (k : Int) := by omega
      have q6 : (n : Int) + (k : Int) < (n : Int) + 3 := by omega
      have q7 : ((n : Int) + (k : Int)).toNat = n + k := by omega
      go_upto_region 5 with fail
      refine wp_region_l (Below wr.heap.size wr) (· == 11) (by kernel_rfl) ?_
      have hC : Below wr.heap.size wr wr.drew := (Below.refl _ _).drew
      have hdr : wr.drew.heap.size = wr.heap.size := rfl
      generalize wr.drew = wd at hC hdr ⊢
      apply L.rd (i := 0) rfl (by kernel_rfl) hC rfl
      · intro W hW
        skip
        unfold readW
        go_simp
        first | rfl | exact ⟨rfl, rfl⟩
      first | simp only [Act.put, List.setIfInBounds_toArray, List.set_cons_succ, List.set_cons_zero] | skip
      apply L.rd (i := 1) rfl (by kernel_rfl) hC rfl
      · intro W hW
        skip
        unfold readW
        go_simp
        first | rfl | exact ⟨rfl, rfl⟩
      first | simp only [Act.put, List.setIfInBounds_toArray, List.set_cons_succ, List.set_cons_zero] | skip
      apply L.rd (i := 2) rfl (by kernel_rfl) hC rfl
      · intro W hW
        skip
        unfold readW
        go_simp
        first | rfl | exact ⟨rfl, rfl⟩
      first | simp only [Act.put, List.setIfInBounds_toArray, List.set_cons_succ, List.set_cons_zero] | skip
      apply L.rd (i := 3) rfl (by kernel_rfl) hC rfl
      · intro W hW
        skip
        unfold readW
        go_simp
        first | rfl | exact ⟨rfl, rfl⟩
      first | simp only [Act.put, List.setIfInBounds_toArray, List.set_cons_succ, List.set_cons_zero] | skip
      apply L.rd (i := 4) rfl (by kernel_rfl) hC rfl
      · intro W hW
        skip
        unfold readW
        go_simp
        first | rfl | exact ⟨rfl, rfl⟩
      first | simp only [Act.put, List.setIfInBounds_toArray, List.set_cons_succ, List.set_cons_zero] | skip
      apply L.rd (i := 5) rfl (by kernel_rfl) hC rfl
      · intro W hW
        skip
        unfold readW
        go_simp
        first | rfl | exact ⟨rfl, rfl⟩
      first | simp only [Act.put, List.setIfInBounds_toArray, List.set_cons_succ, List.set_cons_zero] | skip
      apply L.rd (i := 6) rfl (by kernel_rfl) hC rfl
      · intro W hW
        skip
        unfold readW
        go_simp
        first | rfl | exact ⟨rfl, rfl⟩
      first | simp only [Act.put, List.setIfInBounds_toArray, List.set_cons_succ, List.set_cons_zero] | skip
      apply L.rd (i := 7) rfl (by kernel_rfl) hC rfl
      · intro W hW
        skip
        unfold readW
        go_simp
        first | rfl | exact ⟨rfl, rfl⟩
      first | simp only [Act.put, List.setIfInBounds_toArray, List.set_cons_succ, List.set_cons_zero] | skip
      apply L.rd (i := 8) rfl (by kernel_rfl) hC rfl
      · intro W hW
        skip
        unfold readW
        go_simp
        first | rfl | exact ⟨rfl, rfl⟩
      first | simp only [Act.put, List.setIfInBounds_toArray, List.set_cons_succ, List.set_cons_zero] | skip
      apply L.rd (i := 9) rfl (by kernel_rfl) hC rfl
      · intro W hW
        have r0 := (hbx.below hW hbx.lt).cell 0; have r1 := (hbx.below hW hbx.lt).cell 1; have r2 := (hbx.below hW hbx.lt).cell 2; have r3 := (hbx.below hW hbx.lt).cell 3; have r4 := (hbx.below hW hbx.lt).cell 4; have r5 := (hbx.below hW hbx.lt).cell 5; have r6 := (hbx.below hW hbx.lt).cell 6; have r7 := (hbx.below hW hbx.lt).cell 7
        unfold readW
        go_simp
        first | rfl | exact ⟨rfl, rfl⟩
      first | simp only [Act.put, List.setIfInBounds_toArray, List.set_cons_succ, List.set_cons_zero] | skip
      apply L.rd (i := 10) rfl (by kernel_rfl) hC rfl
      · intro W hW
        skip
        unfold readW
        go_simp
        first | rfl | exact ⟨rfl, rfl⟩
      first | simp only [Act.put, List.setIfInBounds_toArray, List.set_cons_succ, List.set_cons_zero] | skip
      have hg : ∀ i, i < 8 → ∃ u0, cs[(n + k) * 8 + i]? = some u0 := fun i hi => ⟨_, Array.getElem?_eq_getElem (by rw [HS.out]; omega)⟩
      have hblk2 : Blk wd gb 44 cs := hblk.below hC hblk.lt
      have hbd : Blk wd w.heap.size 44 #[.string markN, .int .i64 0, .int .u64 0, .int .u64 0, .int .u64 0, .int .u64 0, .string ⟨#[]⟩, .slice none 0 0] := hbx.below hC hbx.lt
      have hbx0 : w.heap.size ≤ wr.heap.size := Nat.le_of_lt hbx.lt
      obtain ⟨o0, g0⟩ := hg 0 (by omega)
      obtain ⟨o1, g1⟩ := hg 1 (by omega)
      obtain ⟨o2, g2⟩ := hg 2 (by omega)
      obtain ⟨o3, g3⟩ := hg 3 (by omega)
      obtain ⟨o4, g4⟩ := hg 4 (by omega)
      obtain ⟨o5, g5⟩ := hg 5 (by omega)
      obtain ⟨o6, g6⟩ := hg 6 (by omega)
      obtain ⟨o7, g7⟩ := hg 7 (by omega)
      have z0 : wd.cell? ⟨gb, (n + k) * 8, none⟩ = some o0 := (hblk2.cell _).trans g0
      have z1 : wd.cell? ⟨gb, (n + k) * 8 + 1, none⟩ = some o1 := (hblk2.cell _).trans g1
      have z2 : wd.cell? ⟨gb, (n + k) * 8 + 2, none⟩ = some o2 := (hblk2.cell _).trans g2
      have z3 : wd.cell? ⟨gb, (n + k) * 8 + 3, none⟩ = some o3 := (hblk2.cell _).trans g3
      have z4 : wd.cell? ⟨gb, (n + k) * 8 + 4, none⟩ = some o4 := (hblk2.cell _).trans g4
      have z5 : wd.cell? ⟨gb, (n + k) * 8 + 5, none⟩ = some o5 := (hblk2.cell _).trans g5
      have z6 : wd.cell? ⟨gb, (n + k) * 8 + 6, none⟩ = some o6 := (hblk2.cell _).trans g6
      have z7 : wd.cell? ⟨gb, (n + k) * 8 + 7, none⟩ = some o7 := (hblk2.cell _).trans g7
      have f0 := hblk2.frozen ((n + k) * 8)
      have f1 := hblk2.frozen ((n + k) * 8 + 1)
      have f2 := hblk2.frozen ((n + k) * 8 + 2)
      have f3 := hblk2.frozen ((n + k) * 8 + 3)
      have f4 := hblk2.frozen ((n + k) * 8 + 4)
      have f5 := hblk2.frozen ((n + k) * 8 + 5)
      have f6 := hblk2.frozen ((n + k) * 8 + 6)
      have f7 := hblk2.frozen ((n + k) * 8 + 7)
      clear hg g0 g1 g2 g3 g4 g5 g6 g7
      apply L.one (i := 11) rfl (by kernel_rfl) rfl
      unfold stepT
      go_simp
      refine L.done (by kernel_rfl) ?_
      clear hblk hbx
      have hB2 : Below w.heap.size w wd := hbw.trans (hC.mono hbx0)
      go_wp2
      go_roundw
      case rel =>
        refine ⟨k + 1, by omega, by go_num, ⟨_, ((((((((hblk2.set_ ((n + k) * 8) _).set_ _ _).set_ _ _).set_ _ _).set_ _ _).set_ _ _).set_ _ _).set_ _ _), by simp [HS.out], ?_⟩, ((((((((hB2.setCell (by show w.heap.size ≤ gb; omega) _).setCell (by show w.heap.size ≤ gb; omega) _).setCell (by show w.heap.size ≤ gb; omega) _).setCell (by show w.heap.size ≤ gb; omega) _).setCell (by show w.heap.size ≤ gb; omega) _).setCell (by show w.heap.size ≤ gb; omega) _).setCell (by show w.heap.size ≤ gb; omega) _).setCell (by show w.heap.size ≤ gb; omega) _), ((((((((hbd.far (by show w.heap.size ≠ gb; omega) _).far (by show w.heap.size ≠ gb; omega) _).far (by show w.heap.size ≠ gb; omega) _).far (by show w.heap.size ≠ gb; omega) _).far (by show w.heap.size ≠ gb; omega) _).far (by show w.heap.size ≠ gb; omega) _).far (by show w.heap.size ≠ gb; omega) _).far (by show w.heap.size ≠ gb; omega) _)⟩
        simp only [Array.toList_setIfInBounds]
        rw [show (n + (k + 1)) * 8 = (n + k) * 8 + 8 by omega, take_set8 _ _ _ _ _ _ _ _ (by rw [Array.length_toList, HS.out]; omega), HT.out, marksR, List.append_assoc]
        rfl
      case measure => simp [intOf]; omega
    · have hk' : k = 3 := by omega
      subst hk'
      go_wp2
      go_ret
      refine ⟨gb, cs, rfl, by omega, hblk, ?_, hbw⟩
      rw [← HT.out, List.take_of_length_le (by rw [Array.length_toList, HS.out]; omega)]
end Go.Proofs.Ytefechceoeeonaa

/- A grammar whose rows have room behind them; its rules while they are appended. -/
namespace Go.Proofs.Ytefechceoeeonaa
open Go.RowKit Go.Maps

/-- a grammar that rests on blocks from lo on to hi: the row of its rules, with three marks behind it, and those of their bodies, one behind another -/
structure RmG (W : World) (lo hi : Nat) (g : List Rl) (bk : Nat) (rows : Nat → List Value) (L H : Nat → Nat) : Prop where
  small : ∀ r ∈ g, r.1.size ≤ maxLen
  len : g.length ≤ 1466015503690
  lob : lo ≤ bk
  hib : bk < hi
  blk : ∃ cs, Blk W bk 44 cs ∧ cs.toList = ruF g rows 0 ++ marksR 3
  body : ∀ i r, g[i]? = some r → RmE W (L i) (H i) r.2 (rows i)
  inn : ∀ i, i < g.length → lo ≤ L i ∧ H i ≤ bk
  ord : ∀ i j, i < j → j < g.length → H i ≤ L j
section
variable {W W' : World} {lo hi bk B : Nat} {g : List Rl} {rows : Nat → List Value} {L H : Nat → Nat}
theorem RmG.keep (h : RmG W lo hi g bk rows L H) (hK : ∀ b, lo ≤ b → b < hi → W'.heap[b]? = W.heap[b]?) : RmG W' lo hi g bk rows L H :=
  ⟨h.small, h.len, h.lob, h.hib, by obtain ⟨cs, h1, h2⟩ := h.blk; exact ⟨cs, (hK bk h.lob h.hib).trans h1, h2⟩, fun i r hr => (h.body i r hr).keep fun q q1 q2 => by
    have := h.inn i (getElem?_lt hr)
    have := h.hib
    exact hK q (by omega) (by omega), h.inn, h.ord⟩
theorem RmG.mono {lo' hi' : Nat} (h : RmG W lo hi g bk rows L H) (h1 : lo' ≤ lo) (h2 : hi ≤ hi') : RmG W lo' hi' g bk rows L H :=
  ⟨h.small, h.len, by have := h.lob; omega, by have := h.hib; omega, h.blk, h.body, fun i hi => by have := h.inn i hi; omega, h.ord⟩
theorem RmG.len7 (h : RmG W lo hi g bk rows L H) : ∀ j, j < g.length → (rows (0 + j)).length = 7 := fun j hj => by rw [Nat.zero_add]; exact (h.body j _ (List.getElem?_eq_getElem hj)).len7
theorem RmG.is (h : RmG W lo hi g bk rows L H) (hB : hi ≤ B) : GrIs W B g (some ⟨bk, 0, none⟩) (g.length + 3) rows := by
  obtain ⟨cs, hb, hcs⟩ := h.blk
  have hl := h.len
  have hh := h.hib
  have hcell : ∀ j u, (ruF g rows 0)[j]? = some u → W.cell? ((⟨bk, 0, none⟩ : Addr).add j) = some u := fun j u hu => by
    rw [cell_add, hb.cell, ← Array.getElem?_toList, hcs, List.getElem?_append_left (getElem?_lt hu)]
    exact hu
  refine ⟨by omega, by unfold maxLen; omega, fun h => (by cases h), fun _ => ⟨_, rfl, by show bk < B; omega⟩, fun i r hr => h.small r (List.mem_of_getElem? hr), fun i r hr => (h.body i r hr).is (by have := h.inn i (getElem?_lt hr); omega), fun i r ad hr hA => ?_, fun i r ad hr hA j u hu => ?_⟩
  · injection hA with hA
    subst hA
    exact hcell _ _ (ruF_get g rows 0 i r h.len7 hr).1
  · injection hA with hA
    subst hA
    rw [add_add']
    exact hcell _ _ ((ruF_get g rows 0 i r h.len7 hr).2 j u (by rw [Nat.zero_add]; exact hu))
end

/-- rules with room, in a row of one's own -/
structure RRus (base : Nat) (W : World) (g : List Rl) (V : Option Addr) (c : Nat) (rows : Nat → List Value) (L H : Nat → Nat) : Prop where
  own : W.ownsRow base 44 8 (.slice V g.length c) g.length (ruF g rows 0)
  small : ∀ r ∈ g, r.1.size ≤ maxLen
  kid : ∀ i e, g[i]? = some e → RmE W (L i) (H i) e.2 (rows i)
  le : ∀ i, i < g.length → base ≤ L i ∧ H i ≤ W.heap.size
  ord : ∀ i j, i < j → j < g.length → H i ≤ L j
  apart : ∀ i q, i < g.length → (Value.slice V g.length c).ownBlock = some q → q < L i ∨ H i ≤ q
section
variable {base : Nat} {W W' : World} {g : List Rl} {V : Option Addr} {c : Nat} {rows : Nat → List Value} {L H : Nat → Nat}
theorem RRus.nil (base : Nat) (W : World) : RRus base W [] none 0 (fun _ => []) (fun _ => 0) (fun _ => 0) :=
  ⟨World.ownsRow_nil _ _ _ _, fun _ h => (by cases h), fun i e h => by simp at h, fun i h => by simp at h, fun i j _ h => by simp at h, fun i q h => by simp at h⟩
theorem RRus.below (h : RRus base W g V c rows L H) (hb : Below W.heap.size W W') : RRus base W' g V c rows L H :=
  ⟨own_below h.own hb, h.small, fun i e he => (h.kid i e he).keep fun q _ q2 => hb.block q (by have := h.le i (getElem?_lt he); omega), fun i hi => by have := h.le i hi; have := hb.size; omega, h.ord, h.apart⟩
theorem RRus.far (h : RRus base W g V c rows L H) {k : Nat} (hk : k < base) (i : Nat) (u : Value) : RRus base (W.setCell ⟨k, i, none⟩ u) g V c rows L H :=
  ⟨own_far h.own ⟨rfl, rfl, rfl, by simp [World.setCell], fun q hq hne => Below.heap_setCell W ⟨k, i, none⟩ u q (by rintro rfl; exact hne rfl)⟩ hk, h.small,
    fun j e he => (h.kid j e he).keep fun q q1 _ => Below.heap_setCell W ⟨k, i, none⟩ u q (by have := h.le j (getElem?_lt he); show q ≠ k; omega),
    fun i hi => by simpa [World.setCell] using h.le i hi, h.ord, h.apart⟩
theorem RRus.len7 (h : RRus base W g V c rows L H) : ∀ i, i < g.length → (rows i).length = 7 := fun i hi => (h.kid i _ (List.getElem?_eq_getElem hi)).len7
theorem RRus.old (h : RRus base W g V c rows L H) : ∀ q, (Value.slice V g.length c).ownBlock = some q → q < W.heap.size := fun q hq => (h.own.lt q hq).2
theorem RRus.len7z (h : RRus base W g V c rows L H) : ∀ j, j < g.length → (rows (0 + j)).length = 7 := fun j hj => by rw [Nat.zero_add]; exact h.len7 j hj
theorem RRus.one (h : RRus base W g V c rows L H) : ∀ u ∈ ruF g rows 0, u.oneCell' = true :=
  ruF_one g rows 0 fun j hj => by rw [Nat.zero_add]; exact ex_one' ((h.kid j _ (List.getElem?_eq_getElem hj)).is (Nat.le_refl _))
theorem RRus.reads (h : RRus base W g V c rows L H) : Reads W W.heap.size 8 V g.length (ruF g rows 0) ∧ (V = none → c = 0) := by
  have hl := ruF_len g rows 0 h.len7z
  have ho := h.own
  have hlt := ho.lt
  rcases ho.2 with ⟨h1, h2⟩ | ⟨g, cap, cur, hv, h3, h4, h5, h6, _⟩
  · injection h1 with e1 e2 e3
    exact ⟨⟨hl, fun h0 => by omega⟩, fun _ => e3⟩
  · injection hv with e1 e2 e3
    subst e1
    exact ⟨⟨hl, fun _ => ⟨_, rfl, (hlt g rfl).2, fun j u hu => ho.cells rfl j u hu⟩⟩, fun h => by cases h⟩
/-- one rule more -/
theorem RRus.push {V' : Option Addr} {c' lo : Nat} {r : Rl} {rc : List Value} (h : RRus base W g V c rows L H) (hlo : base ≤ lo) (hold : ∀ q, (Value.slice V g.length c).ownBlock = some q → q < lo) (hprev : ∀ i, i < g.length → H i ≤ lo) (hn : r.1.size ≤ maxLen) (hE : RmE W lo W.heap.size r.2 rc)
    (hown : W'.ownsRow base 44 8 (.slice V' (g.length + 1) c') (g.length + 1) (ruF g rows 0 ++ (.string r.1 :: rc))) (hg : W.grownBy W' (Value.slice V g.length c).ownBlock)
    (hat : (Value.slice V' (g.length + 1) c').ownBlock = (Value.slice V g.length c).ownBlock ∨ (Value.slice V' (g.length + 1) c').ownBlock = some W.heap.size) :
    RRus base W' (g ++ [r]) V' c' (fun i => if i = g.length then rc else rows i) (fun i => if i = g.length then lo else L i) (fun i => if i = g.length then W.heap.size else H i) := by
  have hl : (g ++ [r]).length = g.length + 1 := by simp
  have hz := hg.size
  constructor
  · rw [hl, ruF_app, ruF_same g (fun i => if i = g.length then rc else rows i) rows 0 (fun i hi => if_neg (by omega)), ruF, ruF, List.append_nil, Nat.zero_add, if_pos rfl]
    exact hown
  · intro x hx
    rcases List.mem_append.1 hx with hx | hx
    · exact h.small x hx
    · rw [List.mem_singleton.1 hx]; exact hn
  · intro i x hx
    by_cases hi : i < g.length
    · rw [List.getElem?_append_left hi] at hx
      have hle := h.le i hi
      have hap := h.apart i
      simp only [if_neg (show ¬ i = g.length by omega)]
      exact (h.kid i x hx).keep fun q q1 q2 => hg.block q (by omega) fun e => by have := hap q hi e.symm; omega
    · have hi' : i = g.length := by have := getElem?_lt hx; simp at this; omega
      subst hi'
      simp at hx
      subst hx
      simp only [if_true]
      exact hE.keep fun q q1 q2 => hg.block q q2 fun e => by have := hold q e.symm; omega
  · intro i hi
    rw [hl] at hi
    by_cases hi' : i = g.length
    · simp only [if_pos hi']; omega
    · have := h.le i (by omega)
      simp only [if_neg hi']; omega
  · intro i j hij hj
    rw [hl] at hj
    by_cases hj' : j = g.length
    · simp only [if_pos hj', if_neg (show ¬ i = g.length by omega)]
      exact hprev i (by omega)
    · simp only [if_neg hj', if_neg (show ¬ i = g.length by omega)]
      exact h.ord i j hij (by omega)
  · intro i q hi hq
    rw [hl] at hi hq
    by_cases hi' : i = g.length
    · simp only [if_pos hi']
      rcases hat with h1 | h1
      · rw [h1] at hq
        exact .inl (hold q hq)
      · rw [h1] at hq
        injection hq with hq
        exact .inr (by omega)
    · simp only [if_neg hi']
      rcases hat with h1 | h1
      · rw [h1] at hq
        exact h.apart i q (by omega) hq
      · rw [h1] at hq
        injection hq with hq
        have := h.le i (by omega)
        exact .inr (by omega)
/-- the grammar of these rules, when they were given room -/
theorem RRus.node (h : RRus base W g V c rows L H) (hb : Below W.heap.size W W') (hn : g.length ≤ 1466015503690) {bk : Nat} {cs : Array Value} (hbk : W.heap.size ≤ bk) (hB : base ≤ W.heap.size) (hblk : Blk W' bk 44 cs) (hcs : cs.toList = ruF g rows 0 ++ marksR 3) :
    RmG W' base W'.heap.size g bk rows L H :=
  ⟨h.small, hn, by omega, hblk.lt, ⟨cs, hblk, hcs⟩, (h.below hb).kid, (fun i hi => by have := h.le i hi; omega), h.ord⟩
end
/-- no body has a node with too many kids, and there are not too many rules -/
def SmG (g : List Rl) : Prop := g.length ≤ 1466015503690 ∧ ∀ r ∈ g, SmE r.2
def RmGQ (g : List Rl) (w : World) (r : Ending) (w' : World) : Prop := (∃ bk rows L H, r = .returned (.agg #[.slice (some ⟨bk, 0, none⟩) g.length (g.length + 3)]) ∧ RmG w' w.heap.size w'.heap.size g bk rows L H) ∧ Below w.heap.size w w'
/-- while rules are made -/
structure RnI (g : List Rl) (w : World) (nb : Nat) (V : Option Addr) (c : Nat) (rows : Nat → List Value) (L H : Nat → Nat) (j : Nat) (W : World) : Prop where
  bel : Below w.heap.size w W
  res : Blk W (w.heap.size + 1) 24 #[.slice none 0 0]
  nlo : w.heap.size + 1 < nb
  out : Blk W nb 24 #[.slice V j c]
  rus : RRus (nb + 1) W (g.take j) V c rows L H
section
variable {g : List Rl} {w : World} {nb : Nat} {V : Option Addr} {c : Nat} {rows : Nat → List Value} {L H : Nat → Nat} {j : Nat} {W W' : World}
theorem RnI.below (h : RnI g w nb V c rows L H j W) (hb : Below W.heap.size W W') : RnI g w nb V c rows L H j W' :=
  ⟨h.bel.trans (hb.mono h.bel.size), h.res.below hb h.res.lt, h.nlo, h.out.below hb h.out.lt, h.rus.below hb⟩
theorem RnI.push {V' : Option Addr} {c' lo : Nat} {r : Rl} {rc : List Value} (h : RnI g w nb V c rows L H j W) (he : g[j]? = some r) (hlo : nb + 1 ≤ lo) (hold : ∀ q, (Value.slice V j c).ownBlock = some q → q < lo) (hprev : ∀ i, i < j → H i ≤ lo) (hn : r.1.size ≤ maxLen) (hE : RmE W lo W.heap.size r.2 rc)
    (hown : W'.ownsRow (nb + 1) 44 8 (.slice V' (j + 1) c') (j + 1) (ruF (g.take j) rows 0 ++ (.string r.1 :: rc))) (hg : W.grownBy W' (Value.slice V j c).ownBlock)
    (hat : (Value.slice V' (j + 1) c').ownBlock = (Value.slice V j c).ownBlock ∨ (Value.slice V' (j + 1) c').ownBlock = some W.heap.size) :
    RnI g w nb V' c' (fun i => if i = j then rc else rows i) (fun i => if i = j then lo else L i) (fun i => if i = j then W.heap.size else H i) (j + 1) (W'.setCell ⟨nb, 0, none⟩ (.slice V' (j + 1) c')) := by
  have hjl := getElem?_lt he
  have hnl := h.nlo
  have hl : (g.take j).length = j := by simp; omega
  have hne : ∀ b, b < nb + 1 → some b ≠ (Value.slice V j c).ownBlock := fun b hb e => by
    have := h.rus.own.lt b (by rw [hl]; exact e.symm)
    omega
  have hlow : Below w.heap.size W W' := ⟨hg.os, hg.tape, hg.output, hg.size, fun q hq => hg.block q (by have := h.bel.size; omega) (hne q (by omega))⟩
  have hk := h.rus.push (V' := V') (c' := c') (lo := lo) (r := r) hlo (by rw [hl]; exact hold) (by rw [hl]; exact hprev) hn hE (by rw [hl]; exact hown) (by rw [hl]; exact hg) (by rw [hl]; exact hat)
  rw [hl] at hk
  refine ⟨(h.bel.trans hlow).setCell (by simp; omega) _, ((h.res.grown hg (hne _ (by omega))).far (by simp; omega) _), hnl, ((h.out.grown hg (hne _ (by omega))).set_ 0 _), ?_⟩
  rw [take_succ_of he]
  exact hk.far (by omega) _ _
end
end Go.Proofs.Ytefechceoeeonaa
