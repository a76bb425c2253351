/- chaffkeep.roomy and spoil of events (printed by genev.py). -/
import Derived.Test.YtphfckihdhmhpaaTr2
import Derived.Test.YtphfckihdhmhpaaQSpl
import Derived.WalkSpells
import Derived.Deep.DeepCutAuto
namespace Go.Proofs.Ytphfckihdhmhpaa
open Go.RowKit

theorem wrap_i64v (n : Int) (h1 : -9223372036854775808 ≤ n) (h2 : n ≤ 9223372036854775807) : IntKind.i64.wrap n = n := by
  unfold IntKind.wrap IntKind.signed IntKind.bits
  simp
  omega
theorem take_setV {l : List Value} {i : Nat} (u : Value) (h : i < l.length) : (l.set i u).take (i + 1) = l.take i ++ [u] := by
  rw [List.take_add_one, List.take_set_of_le (Nat.le_refl _)]
  simp [h]
theorem take_set3 {l : List Value} {i : Nat} (u0 u1 u2 : Value) (h : i + 3 ≤ l.length) : (((l.set i u0).set (i + 1) u1).set (i + 2) u2).take (i + 3) = l.take i ++ [u0, u1, u2] := by
  rw [show i + 3 = (i + 2) + 1 by omega, take_setV _ (by simp; omega), show i + 2 = (i + 1) + 1 by omega, take_setV _ (by simp; omega), take_setV _ (by omega)]
  simp
def markV : List Value := [.int .i64 9, .int .i64 0, .int .i64 0]
def marksV : Nat → List Value
  | 0 => []
  | k + 1 => marksV k ++ markV
theorem marksV_len : ∀ k, (marksV k).length = k * 3
  | 0 => rfl
  | k + 1 => by rw [marksV, List.length_append, marksV_len k]; show _ + 3 = _; omega
def zerosV (n : Nat) : Array Value := madeCells (Value.agg #[.int .i64 0, .int .i64 0, .int .i64 0]).cells (n * 3)
theorem zerosV_size (n : Nat) : (zerosV n).size = n * 3 := by simp [zerosV, size_madeCells]

set_option maxRecDepth 100000 in
set_option maxHeartbeats 4000000 in
theorem roomyV_any (A : Option Addr) (n c : Nat) (xs : List Value) (B : Nat) (w : World) (hr : Reads w B 3 A n xs) (h1 : ∀ u ∈ xs, u.oneCell' = true) (hB : B ≤ w.heap.size) (hA : A = none → c = 0) (hn : n ≤ 5864062014802) :
    Calls Try.prog 39 #[.slice A n c, .agg #[.int .i64 9, .int .i64 0, .int .i64 0]] w fun e w' =>
      ∃ g cs, e = .returned (.slice (some ⟨g, 0, none⟩) n (n + 3)) ∧ w.heap.size ≤ g ∧ Blk w' g 81 cs ∧ cs.toList = xs ++ marksV 3 ∧ Below w.heap.size w w' := by
  obtain ⟨i0, hi0, hz0, hz1, hz2⟩ := info_parts ev_info
  have HL := Lib.hid hr.len
  have hmk := fun W => made_run Try.underlying57 hi0 hz0 .i64 .i64 (Nat.zero_le (n + 3)) (by rw [hz2]; omega) (by omega) W
  rw [hz1] at hmk
  have hmk' : ∀ W : World, (Instr.makeSlice 57 (.int .i64 0) (.int .i64 ((n : Int) + 3))).run Try.prog W = .ok (.slice (some ⟨W.heap.size, 0, none⟩) 0 (n + 3)) (W.alloc (.cells (zerosV (n + 3)) 81)) := hmk
  clear hmk
  have hnone : A = none → n = 0 ∧ c = 0 := fun h => by
    refine ⟨?_, hA h⟩
    rcases Nat.eq_zero_or_pos n with h0 | h0
    · exact h0
    · obtain ⟨ad, h', _⟩ := hr.lies h0
      rw [h] at h'
      cases h'
  have HN := Lib.hid hnone
  clear hnone hA
  have hbx : Blk (w.alloc (.cells #[.int .i64 9, .int .i64 0, .int .i64 0] 81)) w.heap.size 81 #[.int .i64 9, .int .i64 0, .int .i64 0] := blk_at rfl
  have hb0 : Below w.heap.size w (w.alloc (.cells #[.int .i64 9, .int .i64 0, .int .i64 0] 81)) := (by repeat (first | exact Below.refl _ _ | assumption | refine Below.drew ?_ | refine below_drewN ?_ _ | refine Below.alloc ?_ (by first | omega | (simp; omega) | simp) _ | refine Below.setCell ?_ (by first | omega | (simp; omega) | simp) _))
  have hsz0 : (w.alloc (.cells #[.int .i64 9, .int .i64 0, .int .i64 0] 81)).heap.size = w.heap.size + 1 := by simp
  have hr0 := hr.alloc hB (.cells #[.int .i64 9, .int .i64 0, .int .i64 0] 81)
  have HR0 := Lib.hid hr0
  clear hr hr0
  go_enter Try.func39, Try.ntmps39
  go_upto_region 1 with fail
  generalize (w.alloc (.cells #[.int .i64 9, .int .i64 0, .int .i64 0] 81)) = w0 at hbx hb0 hsz0 HR0 ⊢
  have hgl0 : w.heap.size < w0.heap.size := by omega
  clear hsz0
  have C1 : Hid ((w0.alloc (.cells (zerosV (n + 3)) 81)).ownsRow w0.heap.size 81 3 (.slice (some ⟨w0.heap.size, 0, none⟩) 0 (n + 3)) 0 []) :=
    ⟨rfl, .inr ⟨_, _, zerosV (n + 3), rfl, Nat.le_refl _, blk_at rfl, by omega, by unfold maxLen; omega, by rw [zerosV_size], by simp⟩⟩
  have C3 : Hid (∀ ad, A = some ad → ∀ j u, xs[j]? = some u → (w0.alloc (.cells (zerosV (n + 3)) 81)).cell? (ad.add j) = some u) := by
    intro ad hA j u hu
    have hj := getElem?_lt hu
    have hn0 : 0 < n := by have := HL.out; omega
    obtain ⟨ad', e, _, hc⟩ := (HR0.out.alloc (by omega) (.cells (zerosV (n + 3)) 81)).lies hn0
    rw [hA] at e
    injection e with e
    rw [e]
    exact hc j u hu
  go_wp2_with (at_builtin; refine wpList_append_fits_any _ rfl _ _ _ rfl w0.heap.size 81 i0 3 Try.underlying57 hi0 hz1 w0.heap.size 0 (n + 3) [] rfl C1.out A n c xs rfl HL.out HN.out C3.out h1 (by omega) ?_; intro w1 hown1 hgrow)
  have hb1 : Below w.heap.size w w1 := (hb0.alloc (by omega) _).grown hgrow (by simp; omega) (fun k hk => by injection hk with hk; omega)
  have hbx1 : Blk w1 w.heap.size 81 #[.int .i64 9, .int .i64 0, .int .i64 0] := (hbx.alloc _).grown hgrow (by intro e; injection e with e; omega)
  obtain ⟨cs0, hblk0, hs0, ht0⟩ : ∃ cs, Blk w1 w0.heap.size 81 cs ∧ cs.size = (n + 3) * 3 ∧ cs.toList.take ((n + 0) * 3) = xs ++ marksV 0 := by
    rcases hown1.2 with ⟨h, _⟩ | ⟨g, cap, cur, hv, hg, hh, h1, h2, h3, h4⟩
    · cases h
    · simp only [Value.slice.injEq, Option.some.injEq, Addr.mk.injEq] at hv
      obtain ⟨⟨rfl, _⟩, _, rfl⟩ := hv
      exact ⟨cur, hh, h3, by simpa [marksV] using h4⟩
  clear hown1 hgrow hmk' HR0 C1 C3 HN hbx hb0
  generalize w0.heap.size = gb at hblk0 hgl0 ⊢
  have hng : w.heap.size < w1.heap.size := hbx1.lt
  go_wp2
  go_loopw [6, 13] (fun _ i wr => ∃ k : Nat, k ≤ 3 ∧ i = .int .i64 k ∧ (∃ cs, Blk wr gb 81 cs ∧ cs.size = (n + 3) * 3 ∧ cs.toList.take ((n + k) * 3) = xs ++ marksV k) ∧ Below w.heap.size w wr ∧ Blk wr w.heap.size 81 #[.int .i64 9, .int .i64 0, .int .i64 0]) (fun _ i _ => 3 - (intOf i).toNat)
  case atStart => exact ⟨0, by omega, rfl, ⟨cs0, hblk0, hs0, ht0⟩, hb1, hbx1⟩
  case round =>
    clear hb1 hbx1 hblk0 hs0 ht0 hng
    obtain ⟨k, hk, rfl, ⟨cs, hblk, hs, ht⟩, hbw, hbx⟩ := hrel
    have HT := Lib.hid ht
    have HS := Lib.hid hs
    clear ht hs
    by_cases hk3 : k < 3
    · have q1 : IntKind.i64.wrap ((n : Int) + 3) = ((n + 3 : Nat) : Int) := by rw [wrap_i64v _ (by omega) (by omega)]; omega
      have q2 : IntKind.i64.wrap ((n : Int) + (k : Int)) = ((n + k : Nat) : Int) := by rw [wrap_i64v _ (by omega) (by omega)]; omega
      have q4 : max ((n : Int) + 3) 0 = (n : Int) + 3 := by omega
      have q5 : (0 : Int) ≤ (n : Int) + (k : Int) := by omega
      have q6 : (n : Int) + (k : Int) < (n : Int) + 3 := by omega
      have q7 : ((n : Int) + (k : Int)).toNat = n + k := by omega
      go_upto_region 5 with fail
      refine wp_region_l (Below wr.heap.size wr) (· == 11) (by kernel_rfl) ?_
      have hC : Below wr.heap.size wr wr.drew := (Below.refl _ _).drew
      have hdr : wr.drew.heap.size = wr.heap.size := rfl
      generalize wr.drew = wd at hC hdr ⊢
      apply L.rd (i := 0) rfl (by kernel_rfl) hC rfl
      · intro W hW
        skip
        unfold readW
        go_simp
        first | rfl | exact ⟨rfl, rfl⟩
      first | simp only [Act.put, List.setIfInBounds_toArray, List.set_cons_succ, List.set_cons_zero] | skip
      apply L.rd (i := 1) rfl (by kernel_rfl) hC rfl
      · intro W hW
        skip
        unfold readW
        go_simp
        first | rfl | exact ⟨rfl, rfl⟩
      first | simp only [Act.put, List.setIfInBounds_toArray, List.set_cons_succ, List.set_cons_zero] | skip
      apply L.rd (i := 2) rfl (by kernel_rfl) hC rfl
      · intro W hW
        skip
        unfold readW
        go_simp
        first | rfl | exact ⟨rfl, rfl⟩
      first | simp only [Act.put, List.setIfInBounds_toArray, List.set_cons_succ, List.set_cons_zero] | skip
      apply L.rd (i := 3) rfl (by kernel_rfl) hC rfl
      · intro W hW
        skip
        unfold readW
        go_simp
        first | rfl | exact ⟨rfl, rfl⟩
      first | simp only [Act.put, List.setIfInBounds_toArray, List.set_cons_succ, List.set_cons_zero] | skip
      apply L.rd (i := 4) rfl (by kernel_rfl) hC rfl
      · intro W hW
        skip
        unfold readW
        go_simp
        first | rfl | exact ⟨rfl, rfl⟩
      first | simp only [Act.put, List.setIfInBounds_toArray, List.set_cons_succ, List.set_cons_zero] | skip
      apply L.rd (i := 5) rfl (by kernel_rfl) hC rfl
      · intro W hW
        skip
        unfold readW
        go_simp
        first | rfl | exact ⟨rfl, rfl⟩
      first | simp only [Act.put, List.setIfInBounds_toArray, List.set_cons_succ, List.set_cons_zero] | skip
      apply L.rd (i := 6) rfl (by kernel_rfl) hC rfl
      · intro W hW
        skip
        unfold readW
        go_simp
        first | rfl | exact ⟨rfl, rfl⟩
      first | simp only [Act.put, List.setIfInBounds_toArray, List.set_cons_succ, List.set_cons_zero] | skip
      apply L.rd (i := 7) rfl (by kernel_rfl) hC rfl
      · intro W hW
        skip
        unfold readW
        go_simp
        first | rfl | exact ⟨rfl, rfl⟩
      first | simp only [Act.put, List.setIfInBounds_toArray, List.set_cons_succ, List.set_cons_zero] | skip
      apply L.rd (i := 8) rfl (by kernel_rfl) hC rfl
      · intro W hW
        skip
        unfold readW
        go_simp
        first | rfl | exact ⟨rfl, rfl⟩
      first | simp only [Act.put, List.setIfInBounds_toArray, List.set_cons_succ, List.set_cons_zero] | skip
      apply L.rd (i := 9) rfl (by kernel_rfl) hC rfl
      · intro W hW
        have r0 := (hbx.below hW hbx.lt).cell 0; have r1 := (hbx.below hW hbx.lt).cell 1; have r2 := (hbx.below hW hbx.lt).cell 2
        unfold readW
        go_simp
        first | rfl | exact ⟨rfl, rfl⟩
      first | simp only [Act.put, List.setIfInBounds_toArray, List.set_cons_succ, List.set_cons_zero] | skip
      apply L.rd (i := 10) rfl (by kernel_rfl) hC rfl
      · intro W hW
        skip
        unfold readW
        go_simp
        first | rfl | exact ⟨rfl, rfl⟩
      first | simp only [Act.put, List.setIfInBounds_toArray, List.set_cons_succ, List.set_cons_zero] | skip
      have hg : ∀ i, i < 3 → ∃ u0, cs[(n + k) * 3 + i]? = some u0 := fun i hi => ⟨_, Array.getElem?_eq_getElem (by rw [HS.out]; omega)⟩
      have hblk2 : Blk wd gb 81 cs := hblk.below hC hblk.lt
      have hbd : Blk wd w.heap.size 81 #[.int .i64 9, .int .i64 0, .int .i64 0] := hbx.below hC hbx.lt
      have hbx0 : w.heap.size ≤ wr.heap.size := Nat.le_of_lt hbx.lt
      obtain ⟨o0, g0⟩ := hg 0 (by omega)
      obtain ⟨o1, g1⟩ := hg 1 (by omega)
      obtain ⟨o2, g2⟩ := hg 2 (by omega)
      have z0 : wd.cell? ⟨gb, (n + k) * 3, none⟩ = some o0 := (hblk2.cell _).trans g0
      have z1 : wd.cell? ⟨gb, (n + k) * 3 + 1, none⟩ = some o1 := (hblk2.cell _).trans g1
      have z2 : wd.cell? ⟨gb, (n + k) * 3 + 2, none⟩ = some o2 := (hblk2.cell _).trans g2
      have f0 := hblk2.frozen ((n + k) * 3)
      have f1 := hblk2.frozen ((n + k) * 3 + 1)
      have f2 := hblk2.frozen ((n + k) * 3 + 2)
      clear hg g0 g1 g2
      apply L.one (i := 11) rfl (by kernel_rfl) rfl
      unfold stepT
      go_simp
      refine L.done (by kernel_rfl) ?_
      clear hblk hbx
      have hB2 : Below w.heap.size w wd := hbw.trans (hC.mono hbx0)
      go_wp2
      go_roundw
      case rel =>
        refine ⟨k + 1, by omega, by go_num, ⟨_, (((hblk2.set_ ((n + k) * 3) _).set_ _ _).set_ _ _), by simp [HS.out], ?_⟩, (((hB2.setCell (by show w.heap.size ≤ gb; omega) _).setCell (by show w.heap.size ≤ gb; omega) _).setCell (by show w.heap.size ≤ gb; omega) _), (((hbd.far (by show w.heap.size ≠ gb; omega) _).far (by show w.heap.size ≠ gb; omega) _).far (by show w.heap.size ≠ gb; omega) _)⟩
        simp only [Array.toList_setIfInBounds]
        rw [show (n + (k + 1)) * 3 = (n + k) * 3 + 3 by omega, take_set3 _ _ _ (by rw [Array.length_toList, HS.out]; omega), HT.out, marksV, List.append_assoc]
        rfl
      case measure => simp [intOf]; omega
    · have hk' : k = 3 := by omega
      subst hk'
      go_wp2
      go_ret
      refine ⟨gb, cs, rfl, by omega, hblk, ?_, hbw⟩
      rw [← HT.out, List.take_of_length_le (by rw [Array.length_toList, HS.out]; omega)]

theorem only_setCellV {a w : World} {g i : Nat} (h : a.grownBy w (some g)) (u : Value) : a.grownBy (w.setCell ⟨g, i, none⟩ u) (some g) :=
  ⟨h.os, h.tape, h.output, by simpa [World.setCell] using h.size, fun k hk hne => (Below.heap_setCell w ⟨g, i, none⟩ u k (by rintro rfl; exact hne rfl)).trans (h.block k hk hne)⟩

set_option maxRecDepth 100000 in
set_option maxHeartbeats 4000000 in
theorem spoilV_any (g n m : Nat) (cs : Array Value) (w : World) (hb : Blk w g 81 cs) (hs : cs.size = m * 3) (hm : m ≤ 9223372036854775807) :
    Calls Try.prog 42 #[.slice (some ⟨g, 0, none⟩) n m, .agg #[.int .i64 7, .int .i64 0, .int .i64 0]] w fun e w' => e = .returned (.tuple #[]) ∧ w.grownBy w' (some g) := by
  obtain ⟨i0, hi0, hz0, hz1, hz2⟩ := info_parts ev_info
  have HS := Lib.hid hs
  clear hs
  have hbx : Blk (w.alloc (.cells #[.int .i64 7, .int .i64 0, .int .i64 0] 81)) w.heap.size 81 #[.int .i64 7, .int .i64 0, .int .i64 0] := blk_at rfl
  have hb0 : Below w.heap.size w (w.alloc (.cells #[.int .i64 7, .int .i64 0, .int .i64 0] 81)) := (by repeat (first | exact Below.refl _ _ | assumption | refine Below.drew ?_ | refine below_drewN ?_ _ | refine Below.alloc ?_ (by first | omega | (simp; omega) | simp) _ | refine Below.setCell ?_ (by first | omega | (simp; omega) | simp) _))
  have hgl := hb.lt
  have hb2 := hb.below hb0 hgl
  have hw0 : w.grownBy (w.alloc (.cells #[.int .i64 7, .int .i64 0, .int .i64 0] 81)) (some g) := ⟨hb0.os, hb0.tape, hb0.output, hb0.size, fun k hk _ => hb0.block k hk⟩
  clear hb0 hb
  go_enter Try.func42, Try.ntmps42
  go_upto_region 1 with fail
  generalize (w.alloc (.cells #[.int .i64 7, .int .i64 0, .int .i64 0] 81)) = w0 at hbx hb2 hw0 ⊢
  generalize hbq : w.heap.size = bx at hbx hgl ⊢
  clear hbq
  go_wp2
  go_loopw [4, 11] (fun _ i wr => ∃ k : Nat, k ≤ m ∧ i = .int .i64 k ∧ (∃ cs, Blk wr g 81 cs ∧ cs.size = m * 3) ∧ Blk wr bx 81 #[.int .i64 7, .int .i64 0, .int .i64 0] ∧ w.grownBy wr (some g)) (fun _ i _ => m - (intOf i).toNat)
  case atStart => exact ⟨0, by omega, rfl, ⟨cs, hb2, HS.out⟩, hbx, hw0⟩
  case round =>
    clear hbx hw0 hb2
    obtain ⟨k, hk, rfl, ⟨cs, hblk, hs⟩, hbx, hgw⟩ := hrel
    have HS := Lib.hid hs
    clear hs
    by_cases hkm : k < m
    · have hg : ∀ i, i < 3 → ∃ u0, cs[k * 3 + i]? = some u0 := fun i hi => ⟨_, Array.getElem?_eq_getElem (by rw [HS.out]; omega)⟩
      have r0 := hbx.cell 0
      have r1 := hbx.cell 1
      have r2 := hbx.cell 2
      obtain ⟨o0, g0⟩ := hg 0 (by omega)
      obtain ⟨o1, g1⟩ := hg 1 (by omega)
      obtain ⟨o2, g2⟩ := hg 2 (by omega)
      have z0 : wr.cell? ⟨g, k * 3, none⟩ = some o0 := (hblk.cell _).trans g0
      have z1 : wr.cell? ⟨g, k * 3 + 1, none⟩ = some o1 := (hblk.cell _).trans g1
      have z2 : wr.cell? ⟨g, k * 3 + 2, none⟩ = some o2 := (hblk.cell _).trans g2
      have f0 := hblk.frozen (k * 3)
      have f1 := hblk.frozen (k * 3 + 1)
      have f2 := hblk.frozen (k * 3 + 2)
      clear hg g0 g1 g2
      go_wp2
      go_roundw
      case rel =>
        exact ⟨k + 1, by omega, by go_num, ⟨_, (((hblk.set_ (k * 3) _).set_ _ _).set_ _ _), by simp [HS.out]⟩, (((hbx.far (by show bx ≠ g; omega) _).far (by show bx ≠ g; omega) _).far (by show bx ≠ g; omega) _), (only_setCellV (only_setCellV (only_setCellV hgw _) _) _)⟩
      case measure => simp [intOf]; omega
    · go_wp2
      go_end0
      exact ⟨rfl, hgw⟩

end Go.Proofs.Ytphfckihdhmhpaa
