/- The walk of the law WellEnds. -/
import Derived.Test.YtapihikbdcplaaaPkO
import Derived.Test.YtapihikbdcplaaaPlA
namespace Go.Proofs.Ytapihikbdcplaaa
open Go.RowKit Go.Maps

def endsG1 : List Rl := [(nameA, ofN 5 [refE ⟨#[97]⟩, litE ⟨#[120]⟩])]
def endsG2 : List Rl := [(nameA, ofN 7 [ofN 9 [litE ⟨#[120]⟩]])]
theorem ends_1 : wellG endsG1 = (0, 8) := by decide +kernel
theorem ends_2 : wellG endsG2 = (0, 9) := by decide +kernel

set_option maxRecDepth 100000 in
set_option maxHeartbeats 8000000 in
theorem walk_WellEnds {g : List Rl} {A : Option Addr} {cp : Nat} {row : Nat → List Value} (s : ByteArray) (w : World) (h : GrIs w w.heap.size g A cp row) (hwf : ∀ r ∈ g, WfE r.2) (hs : s.size ≤ 140737488352000) :
    Calls Try.prog 7 #[.agg #[.slice A g.length cp], .string s] w fun e w' => e = .returned (.bool true) ∧ Below w.heap.size w w' := by
  have hlit := lit_b ⟨#[120]⟩
  have href := ref_b ⟨#[97]⟩
  have hof := of_b
  have hone1 := fun (W : World) (b : Nat) (hb : Blk W b 34 (exCells 4 0 0 0 0 ⟨#[97]⟩ none 0 0 ++ exCells 3 0 0 0 0 ⟨#[120]⟩ none 0 0).toArray) =>
    one_b (ofN 5 [refE ⟨#[97]⟩, litE ⟨#[120]⟩]) _ W (ex_two (refE_is W _ (by decide)) (litE_is W _ (by decide)) hb (by simp) 5)
  have hone2 := fun (W : World) (b b' : Nat) (hb : Blk W b 34 (exCells 3 0 0 0 0 ⟨#[120]⟩ none 0 0).toArray) (hb' : Blk W b' 34 (exCells 9 0 0 0 0 ⟨#[]⟩ (some ⟨b, 0, none⟩) 1 1).toArray) =>
    one_b (ofN 7 [ofN 9 [litE ⟨#[120]⟩]]) _ W (ex_one (ex_one (litE_is W _ (by decide)) hb (by simp) 9) hb' (by simp) 7)
  unfold exCells at hlit href hof hone1 hone2
  simp only [List.cons_append, List.nil_append] at hone1
  have hwl := fun W (hW : Below w.heap.size w W) => well_any (h.grow hW)
  have hrn := fun W (hW : Below w.heap.size w W) => run_any (h.grow hW) hwf s
  have HW := Lib.hid hwl
  have HR := Lib.hid hrn
  have HL := Lib.hid hlit
  have HF := Lib.hid href
  have HO := Lib.hid hof
  have H1 := Lib.hid hone1
  have H2 := Lib.hid hone2
  clear hwl hrn hlit href hof hone1 hone2 h hwf
  go_enter Try.func7, Try.ntmps7
  go_wp2_with fail
  refine (HF.out _).mono ?_
  rintro e w1 ⟨rfl, hb1⟩
  have hgx : Blk w1 w.heap.size 24 #[.slice A g.length cp] := (blk_at rfl).below hb1 (by simp)
  have hw1 : Below w.heap.size w w1 := ((Below.refl _ w).alloc (Nat.le_refl _) _).trans (hb1.mono (by simp))
  clear hb1
  go_wp2_with fail
  refine (HL.out _).mono ?_
  rintro e w2 ⟨rfl, hb2⟩
  have hgx2 := hgx.below hb2 hgx.lt
  have hw2 := hw1.trans (hb2.mono hw1.size)
  have hz2 := hw2.size
  have hgl2 := hgx2.lt
  clear hb2 hgx hw1
  go_wp2_with fail
  refine (HO.out _ _ _ _ _).mono ?_
  rintro e w3 ⟨rfl, hb3⟩
  have hk3 := Blk.below (blk_at (w := w2) (t := 34) rfl) hb3 (by simp)
  have hgx3 := (hgx2.alloc _).below hb3 (by simp; omega)
  have hw3 : Below w.heap.size w w3 := (hw2.alloc hz2 _).trans (hb3.mono (by simp; omega))
  clear hb3
  go_wp2_with fail
  refine (H1.out _ _ hk3).mono ?_
  rintro e w4 ⟨b, rfl, hG, hb4⟩
  have hgx4 := hgx3.below hb4 hgx3.lt
  have hw4 := hw3.trans (hb4.mono hw3.size)
  clear hb4 hgx3 hw3 hk3 hgx2 hw2 hz2 hgl2
  go_wp2_with fail
  refine (well_any hG).mono ?_
  unfold WellQ
  rintro e w5 ⟨rfl, hb5⟩
  have hgx5 := hgx4.below hb5 hgx4.lt
  have hw5 := hw4.trans (hb5.mono hw4.size)
  clear hb5 hgx4 hw4 hG
  rw [show wellG [(nameA, ofN 5 [refE ⟨#[97]⟩, litE ⟨#[120]⟩])] = (0, 8) from ends_1]
  go_wp2_with fail
  refine (HL.out _).mono ?_
  rintro e w6 ⟨rfl, hb6⟩
  have hgx6 := hgx5.below hb6 hgx5.lt
  have hw6 := hw5.trans (hb6.mono hw5.size)
  have hz6 := hw6.size
  have hgl6 := hgx6.lt
  clear hb6 hgx5 hw5
  go_wp2_with fail
  refine (HO.out _ _ _ _ _).mono ?_
  rintro e w7 ⟨rfl, hb7⟩
  have hk7 := Blk.below (blk_at (w := w6) (t := 34) rfl) hb7 (by simp)
  have hgx7 := (hgx6.alloc _).below hb7 (by simp; omega)
  have hw7 : Below w.heap.size w w7 := (hw6.alloc hz6 _).trans (hb7.mono (by simp; omega))
  have hz7 := hw7.size
  have hgl7 := hgx7.lt
  clear hb7 hgx6
  go_wp2_with fail
  refine (HO.out _ _ _ _ _).mono ?_
  rintro e w8 ⟨rfl, hb8⟩
  have hk8 := (hk7.alloc _).below hb8 (by have := hk7.lt; simp; omega)
  have hk8' := Blk.below (blk_at (w := w7) (t := 34) rfl) hb8 (by simp)
  have hgx8 := (hgx7.alloc _).below hb8 (by simp; omega)
  have hw8 : Below w.heap.size w w8 := (hw7.alloc hz7 _).trans (hb8.mono (by simp; omega))
  clear hb8 hgx7 hk7 hw7 hw6
  go_wp2_with fail
  refine (H2.out _ _ _ hk8 hk8').mono ?_
  rintro e w9 ⟨b9, rfl, hG, hb9⟩
  have hgx9 := hgx8.below hb9 hgx8.lt
  have hw9 := hw8.trans (hb9.mono hw8.size)
  clear hb9 hgx8 hw8 hk8 hk8'
  go_wp2_with fail
  refine (well_any hG).mono ?_
  unfold WellQ
  rintro e w10 ⟨rfl, hb10⟩
  have hgx10 := hgx9.below hb10 hgx9.lt
  have hw10 := hw9.trans (hb10.mono hw9.size)
  have g10 : w10.cell? ⟨w.heap.size, 0, none⟩ = some (.slice A g.length cp) := hgx10.cell 0
  clear hb10 hgx9 hw9 hG
  rw [show wellG [(nameA, ofN 7 [ofN 9 [litE ⟨#[120]⟩]])] = (0, 9) from ends_2]
  go_wp2_with fail
  refine (HW.out _ hw10).mono ?_
  unfold WellQ
  rintro e w11 ⟨rfl, hb11⟩
  have hgx11 := hgx10.below hb11 hgx10.lt
  have hw11 := hw10.trans (hb11.mono hw10.size)
  have g11 : w11.cell? ⟨w.heap.size, 0, none⟩ = some (.slice A g.length cp) := hgx11.cell 0
  clear hb11 hgx10 hw10 g10
  go_wp2_with fail
  refine (HR.out _ hw11).mono ?_
  rintro e w12 ⟨hb12, hq⟩
  have hgx12 := hgx11.below hb12 hgx11.lt
  have hw12 := hw11.trans (hb12.mono hw11.size)
  have g12 : w12.cell? ⟨w.heap.size, 0, none⟩ = some (.slice A g.length cp) := hgx12.cell 0
  have hz12 := hw12.size
  have hgl12 := hgx12.lt
  have hLK : Hid (lookG g s = if (wellG g).2 ≠ 0 then (wellG g).2 else if 60 < s.size then 2 else 0) := rfl
  clear hb12 hgx11 hw11 g11
  generalize hx : (wellG g).2 = x at hLK ⊢
  generalize (wellG g).1 = x1
  have HX := Lib.hid hx
  clear hx
  rcases hq with ⟨hl0, rfl⟩ | ⟨hl0, o, σ1, V, lc, l', hag, hti, hlast, rfl, hrow⟩
  · rw [outV_eq]
    have hne := hl0
    have hlb : (lookG g s != 0) = true := by rw [bne_iff_ne]; exact hl0
    by_cases hx0 : x = 0
    · subst hx0
      have h60 : 60 < s.size := by
        have h1 := hLK.out
        rw [if_neg (by simp)] at h1
        by_cases hc : 60 < s.size
        · exact hc
        · rw [if_neg hc] at h1; exact absurd h1 hl0
      have h60' : (60 : Int) < (s.size : Int) := by omega
      clear hl0 hne
      generalize lookG g s = y at hlb
      go_wp2
      go_ret
      exact ⟨rfl, (by repeat (first | exact Below.refl _ _ | assumption | refine Below.drew ?_ | refine below_drewN ?_ _ | refine Below.alloc ?_ (by first | omega | (simp; omega) | simp) _ | refine Below.setCell ?_ (by first | omega | (simp; omega) | simp) _))⟩
    · have hxb : (x != 0) = true := by rw [bne_iff_ne]; exact hx0
      clear hl0 hne hx0
      generalize lookG g s = y at hlb
      go_wp2
      go_ret
      exact ⟨rfl, (by repeat (first | exact Below.refl _ _ | assumption | refine Below.drew ?_ | refine below_drewN ?_ _ | refine Below.alloc ?_ (by first | omega | (simp; omega) | simp) _ | refine Below.setCell ?_ (by first | omega | (simp; omega) | simp) _))⟩
  · have hx0 : x = 0 := by
      have h1 := hLK.out
      rw [hl0] at h1
      by_cases hc : x = 0
      · exact hc
      · rw [if_pos hc] at h1; exact absurd h1.symm hc
    subst hx0
    have h60 : ¬ 60 < s.size := by
      have h1 := hLK.out
      rw [hl0, if_neg (by simp)] at h1
      intro hc
      rw [if_pos hc] at h1
      cases h1
    have h60' : ((60 : Int) < (s.size : Int)) = False := by simp; omega
    have hln : 1 ≤ σ1.log.length := by rw [hlast]; simp
    have hlm := hti.len
    rw [← hti.log_len] at hlm
    have h10 := (look_zero hl0).1.right.ten
    have hm1 : g.length * (s.size + 1) ≤ 10 * 61 := Nat.mul_le_mul h10 (by omega)
    have hpr : ((g.length * (s.size + 1) : Nat) : Int) = (g.length : Int) * ((s.size : Int) + 1) := by simp
    have hle : ((σ1.log.length : Int) ≤ (g.length : Int) * ((s.size : Int) + 1)) := by
      rw [← hpr]
      exact Int.ofNat_le.2 hlm
    have hp0 : 0 ≤ (g.length : Int) * ((s.size : Int) + 1) ∧ (g.length : Int) * ((s.size : Int) + 1) ≤ 610 := by
      rw [← hpr]
      exact ⟨by omega, by omega⟩
    have hwm := wrap_i64 ((g.length : Int) * ((s.size : Int) + 1)) (by omega) (by omega)
    have hw64 : wrap64 ((g.length : Int) * ((s.size : Int) + 1)) = (g.length : Int) * ((s.size : Int) + 1) := by
      generalize (g.length : Int) * ((s.size : Int) + 1) = z at hp0
      unfold wrap64
      omega
    have hge : (1 : Int) ≤ (σ1.log.length : Int) := by omega
    rw [outV_eq]
    have HW64 := Lib.hid hw64
    have HLE := Lib.hid hle
    generalize hll : σ1.log.length = ll at hge HLE
    clear hlm hln hti hag hlast hrow hl0 hm1 hll hwm hle hw64 hpr hp0
    go_wp2
    go_ret
    exact ⟨by simp [HW64.out, HLE.out], (by repeat (first | exact Below.refl _ _ | assumption | refine Below.drew ?_ | refine below_drewN ?_ _ | refine Below.alloc ?_ (by first | omega | (simp; omega) | simp) _ | refine Below.setCell ?_ (by first | omega | (simp; omega) | simp) _))⟩
end Go.Proofs.Ytapihikbdcplaaa
