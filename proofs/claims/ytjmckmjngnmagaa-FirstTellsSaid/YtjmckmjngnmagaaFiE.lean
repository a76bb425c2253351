/- The walk of the law FirstTells. -/
import Derived.Test.YtjmckmjngnmagaaFiD
namespace Go.Proofs.Ytjmckmjngnmagaa
open Go.RowKit Go.Maps

def xyG : List Rl := [(nameA, litE ⟨#[120, 121]⟩)]
theorem xy_check : checkG xyG = 0 := by decide +kernel
theorem xy_first : firG xyG = [B4.one 120] := by decide +kernel
theorem look_check {g : List Rl} {s : ByteArray} (h : lookG g s = 0) : checkG g = 0 := by
  have W := (look_zero h).1
  unfold lookG at h
  split at h
  · rename_i hc; exact absurd h hc
  · rename_i hc
    refine Classical.byContradiction fun h0 => hc ?_
    unfold wellG
    rw [if_pos h0]
    exact h0
/-- a rule that takes something takes one of its first bytes first -/
theorem tells_first {g : List Rl} (W : WellG g) (hwf : ∀ r ∈ g, WfE r.2) {s : List UInt8} {j q tz : Nat} {r : Rl} (hr : g[j]? = some r) (hq : q ≤ s.length) (h : Sem g s r.2 q (some tz)) (hlt : q < tz) : ∃ x, (firG g)[j]? = some x ∧ x.has (bt s q) = true ∧ q < s.length := by
  obtain ⟨n, hn⟩ := h
  have H := fits_of W.right
  have hrt := W.right.rt r (List.mem_of_getElem? hr)
  have h1 := (firsts (s := s) H hwf (fun i r hr => firG_fix hr) n).1 r.2 q tz hrt (hwf r (List.mem_of_getElem? hr)) hq hn hlt
  have h2 := (told (s := s) H n).1 r.2 q _ hrt hq hn
  exact ⟨_, firG_fix hr, h1, by have := h2.2.1; omega⟩
theorem has_b4 (x : B4) {b : Nat} (hb : b < 256) (w : World) : Calls Try.prog 23 #[.agg #[.int .u64 x.s4.a, .int .u64 x.s4.b, .int .u64 x.s4.c, .int .u64 x.s4.d], .int .u8 b] w fun e w' => e = .returned (.bool (x.has b)) ∧ Below w.heap.size w w' := by
  have hwd : Words [x.a.toNat, x.b.toNat, x.c.toNat, x.d.toNat] := fun i => by
    match i with
    | 0 => exact x.a.isLt
    | 1 => exact x.b.isLt
    | 2 => exact x.c.isLt
    | 3 => exact x.d.isLt
    | i + 4 => simp
  have h := has_any [x.a.toNat, x.b.toNat, x.c.toNat, x.d.toNat] hwd b hb w
  exact h

set_option maxRecDepth 100000 in
set_option maxHeartbeats 8000000 in
theorem walk_FirstTells {g : List Rl} {A : Option Addr} {cp : Nat} {row : Nat → List Value} (s : ByteArray) (i p : Int) (w : World) (h : GrIs w w.heap.size g A cp row) (hwf : ∀ r ∈ g, WfE r.2) :
    Calls Try.prog 4 #[.agg #[.slice A g.length cp], .string s, .int .i64 i, .int .i64 p] w fun e w' => e = .returned (.bool true) ∧ Below w.heap.size w w' := by
  have hlit := lit_b ⟨#[120, 121]⟩
  have hone := fun W => one_b (litE ⟨#[120, 121]⟩) _ W (litE_is W ⟨#[120, 121]⟩ (by decide))
  have hfi := fun W (hW : Below w.heap.size w W) => first_any (h.grow hW) hwf
  have hat := fun W (hW : Below w.heap.size w W) => at_any (h.grow hW) hwf i s p
  have hrg := fun W => range_b4 (y := 120) (by omega) W
  unfold exCells at hlit hone
  have HFI := Lib.hid hfi
  have HAT := Lib.hid hat
  have HRG := Lib.hid hrg
  have HL := Lib.hid hlit
  have HO := Lib.hid hone
  have HWF := Lib.hid hwf
  clear hfi hat hlit hone hrg h hwf
  go_enter Try.func4, Try.ntmps4
  go_wp2_with fail
  refine (HL.out _).mono ?_
  rintro e w1 ⟨rfl, hb1⟩
  have hgx : Blk w1 w.heap.size 24 #[.slice A g.length cp] := (blk_at rfl).below hb1 (by simp)
  have hw1 : Below w.heap.size w w1 := ((Below.refl _ w).alloc (Nat.le_refl _) _).trans (hb1.mono (by simp))
  clear hb1
  go_wp2_with fail
  refine (HO.out _).mono ?_
  rintro e w3 ⟨b, rfl, hG, hb3⟩
  have hgx3 := hgx.below hb3 hgx.lt
  have hw3 := hw1.trans (hb3.mono hw1.size)
  clear hb3 hgx hw1
  go_wp2_with fail
  refine (first_any hG (wf_g1 (wf_lit _))).mono ?_
  rintro e w4 ⟨hb4, hq⟩
  rcases hq with ⟨hc, _⟩ | ⟨_, b4, rfl, hs4⟩
  · exact absurd xy_check hc
  have hs4' : SetBk w4 b4 [B4.one 120] := by have := xy_first; unfold xyG at this; rw [this] at hs4; exact hs4
  have hgx4 := hgx3.below hb4 hgx3.lt
  have hw4 := hw3.trans (hb4.mono hw3.size)
  have hz4 := hw4.size
  have hgl4 := hgx4.lt
  clear hb4 hgx3 hw3 hG hs4
  go_wp2_with fail
  refine (HRG.out _).mono ?_
  rintro e w4b ⟨rfl, hb4b⟩
  have hs4b : SetBk w4b b4 [B4.one 120] := Blk.below hs4' hb4b (Blk.lt hs4')
  have hgx4b := hgx4.below hb4b hgl4
  have hw4b := hw4.trans (hb4b.mono hz4)
  have hz4b := hw4b.size
  have hgl4b := hgx4b.lt
  generalize B4.one 120 = X at hs4b ⊢
  have heq := fun (W : World) (h1 : SetBk W b4 [X]) (b' : Nat) (h2 : Blk W b' 32 #[.int .u64 X.s4.a, .int .u64 X.s4.b, .int .u64 X.s4.c, .int .u64 X.s4.d]) => equalS_any _ _ 1 1 1 1 _ _ _ _ W (reads_one h1) (reads_one (show SetBk W b' [X] from h2)) (by omega) rfl rfl
  have HE := Lib.hid heq
  clear hb4b hgx4 hw4 hs4' heq hgl4 hz4
  go_wp2_with fail
  refine (HE.out _ (Blk.alloc hs4b _) _ (blk_at rfl)).mono ?_
  rintro e w5 ⟨rfl, d, rfl⟩
  have hw5 : Below w.heap.size w ((w4b.alloc (.cells #[.int .u64 X.s4.a, .int .u64 X.s4.b, .int .u64 X.s4.c, .int .u64 X.s4.d] 32)).drewN d) := (by repeat (first | exact Below.refl _ _ | assumption | refine Below.drew ?_ | refine below_drewN ?_ _ | refine Below.alloc ?_ (by first | omega | (simp; omega) | simp) _ | refine Below.setCell ?_ (by first | omega | (simp; omega) | simp) _))
  have hgx5 := (hgx4b.alloc (.cells #[.int .u64 X.s4.a, .int .u64 X.s4.b, .int .u64 X.s4.c, .int .u64 X.s4.d] 32)).drewN d
  generalize ((w4b.alloc (.cells #[.int .u64 X.s4.a, .int .u64 X.s4.b, .int .u64 X.s4.c, .int .u64 X.s4.d] 32)).drewN d) = w5 at hw5 hgx5 ⊢
  have g5 : w5.cell? ⟨w.heap.size, 0, none⟩ = some (.slice A g.length cp) := hgx5.cell 0
  have hz5 := hw5.size
  have hgl5 := hgx5.lt
  clear hgx4b hw4b hz4b hgl4b HE hs4b
  go_wp2_with fail
  refine (HAT.out _ hw5).mono ?_
  rintro e w6 ⟨v, x, hv, rfl, hb6⟩
  have hgx6 := hgx5.below hb6 hgl5
  have hw6 := hw5.trans (hb6.mono hz5)
  have g6 : w6.cell? ⟨w.heap.size, 0, none⟩ = some (.slice A g.length cp) := hgx6.cell 0
  have hz6 := hw6.size
  have hgl6 := hgx6.lt
  rw [outV_eq]
  clear hb6 hgx5 hw5 g5
  have hbad : (x ≠ 0) ∨ (x = 0 ∧ v.isSome = false) ∨ (x = 0 ∧ v.isSome = true ∧ v.getD 0 = 0) ∨ (x = 0 ∧ ∃ (j q k : Nat) (r : Rl), lookG g s = 0 ∧ i = j ∧ p = q ∧ q ≤ s.size ∧ g[j]? = some r ∧ Sem g s.data.toList r.2 q (some (q + k)) ∧ 0 < k ∧ v = some k) := by
    rcases hv with ⟨h1, h2, h3⟩ | ⟨_, _, h2, h3⟩ | ⟨h1, j, q, r, o, h2, h3, h4, h5, h6, h7, h8⟩
    · exact .inl (by rw [h3]; exact h1)
    · exact .inl (by omega)
    · cases v with
      | none => exact .inr (.inl ⟨h8, rfl⟩)
      | some k =>
        cases o with
        | none => cases h7
        | some tz =>
          simp only [Option.map_some, Option.some.injEq] at h7
          by_cases hk : k = 0
          · exact .inr (.inr (.inl ⟨h8, rfl, by rw [hk]; rfl⟩))
          · exact .inr (.inr (.inr ⟨h8, j, q, k, r, h1, h2, h3, h4, h5, by rw [show q + k = tz by omega]; exact h6, by omega, rfl⟩))
  clear hv
  rcases hbad with hx | ⟨rfl, hvs⟩ | ⟨rfl, hvs, hv0⟩ | ⟨rfl, j, q, k, r, hl0, rfl, rfl, hqs, hr, hsem, hk, rfl⟩
  · have hxb : (x != 0) = true := by rw [bne_iff_ne]; exact hx
    clear hx
    go_wp2
    go_ret
    exact ⟨rfl, (by repeat (first | exact Below.refl _ _ | assumption | refine Below.drew ?_ | refine below_drewN ?_ _ | refine Below.alloc ?_ (by first | omega | (simp; omega) | simp) _ | refine Below.setCell ?_ (by first | omega | (simp; omega) | simp) _))⟩
  · rw [hvs]
    go_wp2
    go_ret
    exact ⟨rfl, (by repeat (first | exact Below.refl _ _ | assumption | refine Below.drew ?_ | refine below_drewN ?_ _ | refine Below.alloc ?_ (by first | omega | (simp; omega) | simp) _ | refine Below.setCell ?_ (by first | omega | (simp; omega) | simp) _))⟩
  · rw [hvs, hv0]
    go_wp2
    go_ret
    exact ⟨rfl, (by repeat (first | exact Below.refl _ _ | assumption | refine Below.drew ?_ | refine below_drewN ?_ _ | refine Below.alloc ?_ (by first | omega | (simp; omega) | simp) _ | refine Below.setCell ?_ (by first | omega | (simp; omega) | simp) _))⟩
  · have W := (look_zero hl0).1
    have h10 := W.right.ten
    have hjl := getElem?_lt hr
    have hsl : s.data.toList.length = s.size := size_list s
    obtain ⟨y, hy, hhas, hqlt⟩ := tells_first W HWF.out hr (by rw [hsl]; exact hqs) hsem (by omega)
    have hck := look_check hl0
    have hbq := bt_of (s := s) (k := q) (by omega)
    have hb256 := bt_lt s.data.toList q
    have hh := fun W => has_b4 y hb256 W
    rw [hhas] at hh
    generalize bt s.data.toList q = bb at hbq hb256 hh
    have HH := Lib.hid hh
    have HY := Lib.hid hy
    have hk0 : ((k : Int) == 0) = false := by rw [beq_eq_false_iff_ne]; omega
    have hql : (q : Int) < (s.size : Int) := by omega
    have hjg : (j : Int) < (g.length : Int) := by omega
    have hkl := firG_len g
    have HKL := Lib.hid hkl
    have HCK := Lib.hid hck
    clear hh hy hhas hck hsem hr W hl0 hkl
    simp only [Option.isSome_some, Option.getD_some]
    go_wp2_with fail
    refine (HFI.out _ (by repeat (first | exact Below.refl _ _ | assumption | refine Below.drew ?_ | refine below_drewN ?_ _ | refine Below.alloc ?_ (by first | omega | (simp; omega) | simp) _ | refine Below.setCell ?_ (by first | omega | (simp; omega) | simp) _))).mono ?_
    rintro e w7 ⟨hb7, hq7⟩
    rcases hq7 with ⟨hc, _⟩ | ⟨_, sb, rfl, hsb⟩
    · exact absurd HCK.out hc
    have hgx7 := (hgx6.alloc (.cells #[.bool true, .int .i64 k] 47)).below hb7 (by simp; omega)
    have hw7 : Below w.heap.size w w7 := (hw6.alloc hz6 _).trans (hb7.mono (by simp; omega))
    have hz7 := hw7.size
    clear hb7 hw6 hgx6 g6
    go_wp2_with fail
    refine wp_region_q (fun W => Below w.heap.size w W ∧ Blk W w.heap.size 24 #[.slice A g.length cp] ∧ SetBk W sb (firG g)) (by kernel_rfl) (by kernel_rfl) ⟨hw7.drew, hgx7.drew, Blk.drew hsb⟩ ?_
    repeat
      (first | ((with_reducible apply QW.free rfl); · (intro W hW; obtain ⟨q1, q2, q3⟩ := hW; have g0 := q2.cell 0; obtain ⟨s0, s1, s2, s3⟩ := q3.cells HY.out; go_simp; first | (go_at_call 23; refine (HH.out _).mono ?_; exact fun e w' h => ⟨h.1, q1.trans (h.2.mono q1.size), q2.below h.2 q2.lt, Blk.below q3 h.2 (Blk.lt q3)⟩) | rfl)) | ((with_reducible apply QW.skip rfl); · (first | exact ⟨_, _, rfl, rfl, .inl rfl⟩ | exact ⟨_, _, rfl, rfl, .inr rfl⟩)) | ((with_reducible apply QW.take rfl); (· exact ⟨_, rfl, rfl⟩); (· (intro W hW; obtain ⟨q1, q2, q3⟩ := hW; have g0 := q2.cell 0; obtain ⟨s0, s1, s2, s3⟩ := q3.cells HY.out; go_simp; first | (go_at_call 23; refine (HH.out _).mono ?_; exact fun e w' h => ⟨h.1, q1.trans (h.2.mono q1.size), q2.below h.2 q2.lt, Blk.below q3 h.2 (Blk.lt q3)⟩) | rfl)))); (try simp only [Act.put, List.setIfInBounds_toArray, List.set_cons_zero, List.set_cons_succ])
    refine QW.nil ?_
    rintro w8 ⟨q1, q2, q3⟩
    go_wp2
    go_ret
    exact ⟨rfl, q1⟩
end Go.Proofs.Ytjmckmjngnmagaa
