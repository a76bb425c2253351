/- The walk of EventBack. -/
import Derived.Test.YtkoenjnjkapfmaaTr8
import Derived.Deep.RegionHeld3
namespace Go.Proofs.Ytkoenjnjkapfmaa
open Go.RowKit

/-- what SameTree answers of these cells in all worlds that keep W's -/
structure SameQ (W : World) (cs cs' : List Value) (D : Bool) : Prop where
  use : ∀ {w' : World}, Below W.heap.size W w' → Calls Try.prog 26 #[.agg cs.toArray, .agg cs'.toArray] w' fun e w'' => e = .returned (.bool D) ∧ Below w'.heap.size w' w''

set_option maxHeartbeats 4000000 in
set_option maxRecDepth 100000 in
theorem walk_EventBack (t u : Tr) (ct cu : List Value) (w : World) (ht : TrIs w (· < w.heap.size) t ct) (hu : TrIs w (· < w.heap.size) u cu) (hbt : trNodes t ≤ 1048576) (hbu : trNodes u ≤ 1048576) :
    Calls Try.prog 6 #[.agg ct.toArray, .agg cu.toArray] w fun e w' => e = .returned (.bool true) ∧ Below w.heap.size w w' := by
  cases t with
  | mk tr tf tu tks =>
  cases u with
  | mk ur uf uu uks =>
  obtain ⟨At, cpt, rfl, -⟩ := ht.kids
  obtain ⟨Au, cpu, rfl, -⟩ := hu.kids
  generalize htt : Tr.mk tr tf tu tks = t at ht hbt
  generalize huu : Tr.mk ur uf uu uks = u at hu hbu
  have HX0 : ∀ {o1 o2 : Obj}, Hid (Below w.heap.size w ((w.alloc o1).alloc o2)) := ((Below.refl _ _).alloc (Nat.le_refl _) _).alloc (by simp) _
  go_enter Try.func6, Try.ntmps6
  go_wp2_with fail
  refine (of_any t _ _ (· < w.heap.size) (ht.keep (fun _ h => h) fun p hp => HX0.out.cell hp) (fun b hb => by have hb' : b < w.heap.size := hb; simp; omega) hbt).mono ?_
  rintro e w1 ⟨⟨V, cv, rfl, hown⟩, hb1⟩
  go_wp2_with fail
  refine (build_any V (evs t).length cv (evs t) w1.heap.size w1 (Reads.of_own hown) (Nat.le_refl _) (by rw [evs_len]; omega)).mono ?_
  rintro e w2 ⟨⟨tc, hq⟩, hb2⟩
  rw [bld_back] at hq
  obtain ⟨x, hx, rfl, htc⟩ : ∃ x, some t = some x ∧ e = .returned (.tuple #[.agg tc.toArray, .int .i64 0]) ∧ TrIs w2 (· < w2.heap.size) x tc := by
    rcases hq with h | ⟨h, _⟩
    · exact h
    · cases h
  injection hx with hx
  subst hx
  have htc' := htc
  rw [← htt] at htc'
  obtain ⟨Ax, cpx, rfl, -⟩ := htc'.kids
  go_wp2_with fail
  have hsz1 := hb1.size
  have hsz2 := hb2.size
  simp at hsz1
  have hB1 : Below w1.heap.size w1 (w2.alloc (.cells #[.int .i64 tr, .int .i64 tf, .int .i64 tu, .slice Ax tks.length cpx] 40)) := hb2.alloc hsz2 _
  have hB0 : Below w.heap.size w (w2.alloc (.cells #[.int .i64 tr, .int .i64 tf, .int .i64 tu, .slice Ax tks.length cpx] 40)) := (((HX0.out.trans (hb1.mono (by simp; omega))).trans (hb2.mono (by omega)))).alloc (by omega) _
  have hBT : Blk (w2.alloc (.cells #[.int .i64 tr, .int .i64 tf, .int .i64 tu, .slice Ax tks.length cpx] 40)) w.heap.size 40 #[.int .i64 tr, .int .i64 tf, .int .i64 tu, .slice At tks.length cpt] := ((((blk_at rfl).alloc _).below hb1 (by simp; omega)).below hb2 (by omega)).alloc _
  have hBU : Blk (w2.alloc (.cells #[.int .i64 tr, .int .i64 tf, .int .i64 tu, .slice Ax tks.length cpx] 40)) (w.heap.size + 1) 40 #[.int .i64 ur, .int .i64 uf, .int .i64 uu, .slice Au uks.length cpu] := (((blk_at (by simp)).below hb1 (by simp)).below hb2 (by omega)).alloc _
  have hBX : Blk (w2.alloc (.cells #[.int .i64 tr, .int .i64 tf, .int .i64 tu, .slice Ax tks.length cpx] 40)) w2.heap.size 40 #[.int .i64 tr, .int .i64 tf, .int .i64 tu, .slice Ax tks.length cpx] := blk_at rfl
  have hXT : TrIs (w2.alloc (.cells #[.int .i64 tr, .int .i64 tf, .int .i64 tu, .slice Ax tks.length cpx] 40)) (· < w2.heap.size) t [.int .i64 tr, .int .i64 tf, .int .i64 tu, .slice Ax tks.length cpx] := htc.on ((Below.refl _ _).alloc (Nat.le_refl _) _) (Nat.le_refl _)
  have hW3 : w2.heap.size < (w2.alloc (.cells #[.int .i64 tr, .int .i64 tf, .int .i64 tu, .slice Ax tks.length cpx] 40)).heap.size := by simp
  generalize w2.alloc (.cells #[.int .i64 tr, .int .i64 tf, .int .i64 tu, .slice Ax tks.length cpx] 40) = W3 at hB0 hB1 hBT hBU hBX hXT hW3 ⊢
  have HT := Lib.hid ht
  have HU := Lib.hid hu
  have HXT := Lib.hid hXT
  have HOWN := Lib.hid hown
  have HB0 := Lib.hid hB0
  have HB1 := Lib.hid hB1
  have HN := Lib.hid (evs_len t)
  have HEU : Hid (sameT t u = decide (evs t = evs u)) := by
    show _ = _
    rw [Bool.eq_iff_iff, sameT_eq, decide_eq_true_iff]
    exact ⟨fun h => by rw [h], evs_inj⟩
  have HST : Hid (sameT t t = true) := (sameT_eq t t).2 rfl
  have HCO : Hid (∀ w', Below W3.heap.size W3 w' → Calls Try.prog 25 #[.agg #[.int .i64 tr, .int .i64 tf, .int .i64 tu, .slice At tks.length cpt]] w' fun e w'' => e = .returned (.int .i64 (trNodes t)) ∧ Below w'.heap.size w' w'') := fun w' hb => count_any t _ _ (· < w.heap.size) (HT.out.keep (fun _ h => h) fun p hp => (HB0.out.trans (hb.mono HB0.out.size)).cell hp) (fun b hb' => by have h1 : b < w.heap.size := hb'; have h2 := hb.size; have h3 := HB0.out.size; omega) (by omega)
  have HS1 : SameQ W3 [.int .i64 tr, .int .i64 tf, .int .i64 tu, .slice At tks.length cpt] [.int .i64 tr, .int .i64 tf, .int .i64 tu, .slice Ax tks.length cpx] true := ⟨fun {w'} hb => by
    have h1 := HB0.out.trans (hb.mono HB0.out.size)
    have := same_any t t _ _ w' (· < w'.heap.size) (HT.out.on h1 h1.size) (HXT.out.on (hb.mono (by omega)) (by have := hb.size; omega)) (fun b hb => hb)
    rw [HST.out] at this
    exact this⟩
  have HS2 : SameQ W3 [.int .i64 tr, .int .i64 tf, .int .i64 tu, .slice At tks.length cpt] [.int .i64 ur, .int .i64 uf, .int .i64 uu, .slice Au uks.length cpu] (decide (evs t = evs u)) := ⟨fun {w'} hb => by
    have h1 := HB0.out.trans (hb.mono HB0.out.size)
    have := same_any t u _ _ w' (· < w'.heap.size) (HT.out.on h1 h1.size) (HU.out.on h1 h1.size) (fun b hb => hb)
    rw [HEU.out] at this
    exact this⟩
  have HOF : Hid (∀ w', Below W3.heap.size W3 w' → Calls Try.prog 23 #[.agg #[.int .i64 ur, .int .i64 uf, .int .i64 uu, .slice Au uks.length cpu]] w' fun e w'' => (∃ V c, e = .returned (.slice V (evs u).length c) ∧ w''.ownsRow w'.heap.size 49 3 (.slice V (evs u).length c) (evs u).length (evCells (evs u))) ∧ Below w'.heap.size w' w'') := fun w' hb => of_any u _ _ (· < w'.heap.size) (by have h1 := HB0.out.trans (hb.mono HB0.out.size); exact HU.out.on h1 h1.size) (fun b hb => hb) hbu
  have HEQ : Hid (∀ w' V' c' b', Below W3.heap.size W3 w' → w'.ownsRow b' 49 3 (.slice V' (evs u).length c') (evs u).length (evCells (evs u)) → Calls Try.prog 27 #[.slice V (evs t).length cv, .slice V' (evs u).length c'] w' fun e w'' => e = .returned (.bool (decide (evs t = evs u))) ∧ Below w'.heap.size w' w'') := fun w' V' c' b' hb ho => by
    have h1 := HB1.out.trans (hb.mono HB1.out.size)
    have hn := HN.out
    refine (equalE_any V V' _ cv _ c' (evs t) (evs u) w1.heap.size w'.heap.size w' ((Reads.of_own HOWN.out).below h1) (Reads.of_own ho) (by unfold Small; omega)).mono ?_
    rintro e w'' ⟨rfl, d, rfl⟩
    exact ⟨rfl, below_drewN (Below.refl _ _) d⟩
  have hwr : IntKind.i64.wrap (2 * (trNodes t : Int)) = 2 * (trNodes t : Int) := IntWalk.i64_in _ (by omega)
  have hpos : 0 < trNodes t := by rw [← htt, trNodes]; omega
  have hn2 : (((evs t).length : Nat) : Int) = 2 * (trNodes t : Int) := by have := HN.out; omega
  have hp0 : (0 : Int) < 2 * (trNodes t : Int) := by omega
  clear htc hXT hown hb1 hb2 hB0 hB1 ht hu hbt hbu htt huu
  have g0 : W3.cell? ⟨w.heap.size, 0, none⟩ = _ := hBT.cell 0
  have g1 : W3.cell? ⟨w.heap.size, 1, none⟩ = _ := hBT.cell 1
  have g2 : W3.cell? ⟨w.heap.size, 2, none⟩ = _ := hBT.cell 2
  have g3 : W3.cell? ⟨w.heap.size, 3, none⟩ = _ := hBT.cell 3
  have g4 : W3.cell? ⟨w.heap.size + 1, 0, none⟩ = _ := hBU.cell 0
  have g5 : W3.cell? ⟨w.heap.size + 1, 1, none⟩ = _ := hBU.cell 1
  have g6 : W3.cell? ⟨w.heap.size + 1, 2, none⟩ = _ := hBU.cell 2
  have g7 : W3.cell? ⟨w.heap.size + 1, 3, none⟩ = _ := hBU.cell 3
  have g8 : W3.cell? ⟨w2.heap.size, 0, none⟩ = _ := hBX.cell 0
  have g9 : W3.cell? ⟨w2.heap.size, 1, none⟩ = _ := hBX.cell 1
  have g10 : W3.cell? ⟨w2.heap.size, 2, none⟩ = _ := hBX.cell 2
  have g11 : W3.cell? ⟨w2.heap.size, 3, none⟩ = _ := hBX.cell 3
  have hq0 := hBT.lt
  have hq1 := hBU.lt
  have HK : Hid (∀ a b, (fun w' => Below W3.heap.size W3 w' ∧ w'.cell? ⟨w.heap.size, 0, none⟩ = some (.int .i64 tr) ∧ w'.cell? ⟨w.heap.size, 1, none⟩ = some (.int .i64 tf) ∧ w'.cell? ⟨w.heap.size, 2, none⟩ = some (.int .i64 tu) ∧ w'.cell? ⟨w.heap.size, 3, none⟩ = some (.slice At tks.length cpt) ∧ w'.cell? ⟨w.heap.size + 1, 0, none⟩ = some (.int .i64 ur) ∧ w'.cell? ⟨w.heap.size + 1, 1, none⟩ = some (.int .i64 uf) ∧ w'.cell? ⟨w.heap.size + 1, 2, none⟩ = some (.int .i64 uu) ∧ w'.cell? ⟨w.heap.size + 1, 3, none⟩ = some (.slice Au uks.length cpu) ∧ w'.cell? ⟨w2.heap.size, 0, none⟩ = some (.int .i64 tr) ∧ w'.cell? ⟨w2.heap.size, 1, none⟩ = some (.int .i64 tf) ∧ w'.cell? ⟨w2.heap.size, 2, none⟩ = some (.int .i64 tu) ∧ w'.cell? ⟨w2.heap.size, 3, none⟩ = some (.slice Ax tks.length cpx)) a → Below a.heap.size a b → (fun w' => Below W3.heap.size W3 w' ∧ w'.cell? ⟨w.heap.size, 0, none⟩ = some (.int .i64 tr) ∧ w'.cell? ⟨w.heap.size, 1, none⟩ = some (.int .i64 tf) ∧ w'.cell? ⟨w.heap.size, 2, none⟩ = some (.int .i64 tu) ∧ w'.cell? ⟨w.heap.size, 3, none⟩ = some (.slice At tks.length cpt) ∧ w'.cell? ⟨w.heap.size + 1, 0, none⟩ = some (.int .i64 ur) ∧ w'.cell? ⟨w.heap.size + 1, 1, none⟩ = some (.int .i64 uf) ∧ w'.cell? ⟨w.heap.size + 1, 2, none⟩ = some (.int .i64 uu) ∧ w'.cell? ⟨w.heap.size + 1, 3, none⟩ = some (.slice Au uks.length cpu) ∧ w'.cell? ⟨w2.heap.size, 0, none⟩ = some (.int .i64 tr) ∧ w'.cell? ⟨w2.heap.size, 1, none⟩ = some (.int .i64 tf) ∧ w'.cell? ⟨w2.heap.size, 2, none⟩ = some (.int .i64 tu) ∧ w'.cell? ⟨w2.heap.size, 3, none⟩ = some (.slice Ax tks.length cpx)) b) := fun a b ⟨h0, h⟩ hb => by
    have hs := h0.size
    refine ⟨h0.trans (hb.mono hs), ?_⟩
    rw [hb.cell (by simp; omega), hb.cell (by simp; omega), hb.cell (by simp; omega), hb.cell (by simp; omega), hb.cell (by simp; omega), hb.cell (by simp; omega), hb.cell (by simp; omega), hb.cell (by simp; omega), hb.cell (by simp; omega), hb.cell (by simp; omega), hb.cell (by simp; omega), hb.cell (by simp; omega)]
    exact h
  have HS0 : Hid ((fun w' => Below W3.heap.size W3 w' ∧ w'.cell? ⟨w.heap.size, 0, none⟩ = some (.int .i64 tr) ∧ w'.cell? ⟨w.heap.size, 1, none⟩ = some (.int .i64 tf) ∧ w'.cell? ⟨w.heap.size, 2, none⟩ = some (.int .i64 tu) ∧ w'.cell? ⟨w.heap.size, 3, none⟩ = some (.slice At tks.length cpt) ∧ w'.cell? ⟨w.heap.size + 1, 0, none⟩ = some (.int .i64 ur) ∧ w'.cell? ⟨w.heap.size + 1, 1, none⟩ = some (.int .i64 uf) ∧ w'.cell? ⟨w.heap.size + 1, 2, none⟩ = some (.int .i64 uu) ∧ w'.cell? ⟨w.heap.size + 1, 3, none⟩ = some (.slice Au uks.length cpu) ∧ w'.cell? ⟨w2.heap.size, 0, none⟩ = some (.int .i64 tr) ∧ w'.cell? ⟨w2.heap.size, 1, none⟩ = some (.int .i64 tf) ∧ w'.cell? ⟨w2.heap.size, 2, none⟩ = some (.int .i64 tu) ∧ w'.cell? ⟨w2.heap.size, 3, none⟩ = some (.slice Ax tks.length cpx)) W3.drew) := ⟨(Below.refl _ _).drew, g0, g1, g2, g3, g4, g5, g6, g7, g8, g9, g10, g11⟩
  generalize hD : decide (evs t = evs u) = D at HS2 HEQ
  go_region_held3 (fun w' => Below W3.heap.size W3 w' ∧ w'.cell? ⟨w.heap.size, 0, none⟩ = some (.int .i64 tr) ∧ w'.cell? ⟨w.heap.size, 1, none⟩ = some (.int .i64 tf) ∧ w'.cell? ⟨w.heap.size, 2, none⟩ = some (.int .i64 tu) ∧ w'.cell? ⟨w.heap.size, 3, none⟩ = some (.slice At tks.length cpt) ∧ w'.cell? ⟨w.heap.size + 1, 0, none⟩ = some (.int .i64 ur) ∧ w'.cell? ⟨w.heap.size + 1, 1, none⟩ = some (.int .i64 uf) ∧ w'.cell? ⟨w.heap.size + 1, 2, none⟩ = some (.int .i64 uu) ∧ w'.cell? ⟨w.heap.size + 1, 3, none⟩ = some (.slice Au uks.length cpu) ∧ w'.cell? ⟨w2.heap.size, 0, none⟩ = some (.int .i64 tr) ∧ w'.cell? ⟨w2.heap.size, 1, none⟩ = some (.int .i64 tf) ∧ w'.cell? ⟨w2.heap.size, 2, none⟩ = some (.int .i64 tu) ∧ w'.cell? ⟨w2.heap.size, 3, none⟩ = some (.slice Ax tks.length cpx))
    (first | exact HS0.out | exact HK.out _ _ (by assumption) hk)
    (first
      | (go_at_call 25; refine (HCO.out _ (by go_split_ands; assumption)).mono ?_; rintro e w4 ⟨rfl, hk⟩)
      | (go_at_call 26; refine (SameQ.use (cs := [.int .i64 tr, .int .i64 tf, .int .i64 tu, .slice At tks.length cpt]) (by assumption) (by go_split_ands; assumption)).mono ?_; rintro e w4 ⟨rfl, hk⟩)
      | (go_at_call 23; refine (HOF.out _ (by go_split_ands; assumption)).mono ?_; rintro e w4 ⟨⟨V', c', rfl, hown'⟩, hk⟩)
      | (go_at_call 27; refine (HEQ.out _ _ _ _ (by go_split_ands; assumption) hown').mono ?_; rintro e w4 ⟨rfl, hk⟩)
      | (go_at_call 27; refine (HEQ.out _ _ _ _ (by go_split_ands; assumption) (own_below hown' hk)).mono ?_; rintro e w4 ⟨rfl, hk⟩))
  go_wp2
  go_ret
  have hlast : Below W3.heap.size W3 w4 := by go_split_ands; assumption
  exact ⟨by simp, HB0.out.trans (hlast.mono HB0.out.size)⟩
end Go.Proofs.Ytkoenjnjkapfmaa
