/- book.Run: what it answers. -/
import Derived.Test.YtjmckmjngnmagaaBkA
import Derived.Test.YtjmckmjngnmagaaWhA
namespace Go.Proofs.Ytjmckmjngnmagaa
open Go.RowKit Go.Maps

/-- does a case hold? -/
noncomputable def tellB (g : List Rl) (c : Cs) : Bool := (if c.1 = 4 then ((outG g c.2.2).isSome && decide ((((outG g c.2.2).getD 0 : Nat) : Int) = c.2.1)) else accG g c.2.2) == decide (c.1 ≠ 2)
/-- what book.Run answers -/
def BRunQ (g : List Rl) (l : List Cs) (w : World) (e : Ending) (w' : World) : Prop := Below w.heap.size w w' ∧
  (((wellG g).2 ≠ 0 ∧ e = .returned (.tuple #[.slice none 0 0, .int .i64 (wellG g).2])) ∨ ((wellG g).2 = 0 ∧ bchkC l ≠ 0 ∧ e = .returned (.tuple #[.slice none 0 0, .int .i64 (bchkC l)])) ∨
   ((wellG g).2 = 0 ∧ bchkC l = 0 ∧ ∃ V c, (l ≠ [] → l.length ≤ c ∧ ∃ F, V = some ⟨F, 0, none⟩) ∧ e = .returned (.tuple #[.slice V l.length c, .int .i64 0]) ∧ Reads w' w'.heap.size 1 V l.length (bools (l.map (tellB g)))))
theorem chk_fit : ∀ {l : List Cs}, chkC l = 0 → ∀ c ∈ l, fitC c = 0
  | [], _, c, hc => by cases hc
  | x :: l, h, c, hc => by
    rw [chkC] at h
    split at h
    · rename_i hn; exact absurd h hn
    · rename_i hn
      rcases List.mem_cons.1 hc with rfl | hc
      · exact Classical.byContradiction hn
      · exact chk_fit h c hc
theorem fit_60 {c : Cs} (h : fitC c = 0) : c.2.2.size ≤ 60 := by
  unfold fitC at h
  split at h
  · omega
  · omega
theorem fit_kind {k m : Int} {t : ByteArray} (h : fitC (k, m, t) = 0) : k = 1 ∨ k = 2 ∨ k = 4 := by
  unfold fitC at h
  simp only at h
  split at h
  · omega
  split at h
  · rename_i h12; omega
  split at h
  · omega
  · omega
theorem tell_snoc {g : List Rl} {l : List Cs} {j : Nat} {c : Cs} {y : Bool} (h : l[j]? = some c) (hy : tellB g c = y) : bools ((l.take j).map (tellB g)) ++ [.bool y] = bools ((l.take (j + 1)).map (tellB g)) := by
  rw [take_succ_of h, List.map_append, bools, bools, List.map_append, ← hy]
  rfl
theorem bool_info : (Try.prog.info? 4).map (fun i => (i.zero, i.size, i.bytes)) = some (some (.bool false), 1, 1) := by kernel_rfl

set_option maxRecDepth 100000 in
set_option maxHeartbeats 8000000 in
theorem brun_any {g : List Rl} {A LA : Option Addr} {cp n c : Nat} {row : Nat → List Value} {l : List Cs} {w : World} (h : GrIs w w.heap.size g A cp row) (hwf : ∀ r ∈ g, WfE r.2) (hl : Reads w w.heap.size 3 LA n (caseC l)) (hn : l.length = n) :
    Calls Try.prog 44 #[.agg #[.slice A g.length cp], .slice LA n c] w (BRunQ g l w) := by
  have hso := run_same_out
  obtain ⟨i0, hi0, hz0, hz1, hz2⟩ := info_parts bool_info
  have hwl := fun W (hW : Below w.heap.size w W) => well_any (h.grow hW)
  have hck := fun W (hW : Below w.heap.size w W) => bcheck_any (c := c) ((hl.below hW).more hW.size) hn
  have hac := fun W (hW : Below w.heap.size w W) (t : ByteArray) => acc_any (h.grow hW) hwf t
  have hrn := fun W (hW : Below w.heap.size w W) (t : ByteArray) => run_any (h.grow hW) hwf t
  have HW := Lib.hid hwl
  have HCK := Lib.hid hck
  have HAC := Lib.hid hac
  have HRN := Lib.hid hrn
  have HLL := Lib.hid hl
  have HN := Lib.hid hn
  clear hwl hck hac hrn h hwf hl hn
  by_cases hw0 : (wellG g).2 = 0
  · by_cases hc0 : bchkC l = 0
    · have HBQ : ∀ e w', Hid (Below w.heap.size w w' → (∃ V c, (l ≠ [] → l.length ≤ c ∧ ∃ F, V = some ⟨F, 0, none⟩) ∧ e = .returned (.tuple #[.slice V n c, .int .i64 0]) ∧ Reads w' w'.heap.size 1 V n (bools (l.map (tellB g)))) → BRunQ g l w e w') := fun e w' hb h => ⟨hb, .inr (.inr ⟨hw0, hc0, by have h1 := HN.out; subst h1; exact h⟩)⟩
      have hfit : ∀ (j : Nat) (x : Cs), l[j]? = some x → lookG g x.2.2 = 0 ∧ fitC x = 0 := fun j x hx => by
        have h1 : chkC l = 0 := by
          unfold bchkC at hc0
          split at hc0
          · cases hc0
          · exact hc0
        have h3 := chk_fit h1 x (List.mem_of_getElem? hx)
        have h2 := fit_60 h3
        refine ⟨?_, h3⟩
        unfold lookG
        rw [if_neg (by rw [hw0]; simp), if_neg (by omega)]
      have hn40 : n ≤ 40 := by
        unfold bchkC at hc0
        split at hc0
        · cases hc0
        · have := HN.out; omega
      have HFI := Lib.hid hfit
      rw [hc0] at HCK
      clear hfit hc0
      go_enter Try.func44, Try.ntmps44
      go_wp2_with fail
      refine (HW.out _ (by repeat (first | exact Below.refl _ _ | assumption | refine Below.drew ?_ | refine below_drewN ?_ _ | refine Below.alloc ?_ (by first | omega | (simp; omega) | simp) _ | refine Below.setCell ?_ (by first | omega | (simp; omega) | simp) _))).mono ?_
      unfold WellQ
      rintro e w1 ⟨rfl, hb1⟩
      have hgx : Blk w1 w.heap.size 24 #[.slice A g.length cp] := (blk_at rfl).below hb1 (by simp)
      have hw1 : Below w.heap.size w w1 := ((Below.refl _ w).alloc (Nat.le_refl _) _).trans (hb1.mono (by simp))
      clear hb1
      rw [hw0]
      generalize (wellG g).1 = x1
      go_wp2_with fail
      refine (HCK.out _ hw1).mono ?_
      rintro e w2 ⟨rfl, hb2⟩
      have hgx2 := hgx.below hb2 hgx.lt
      have hw2 := hw1.trans (hb2.mono hw1.size)
      clear hb2 hgx hw1
      go_wp2
      go_loopw [9, 32] (fun v i wr => ∃ j : Nat, j ≤ n ∧ i = .int .i64 j ∧ Hid (wr.ownsRow (w.heap.size + 1) 4 1 v j (bools ((l.take j).map (tellB g)))) ∧ Below w.heap.size w wr ∧ Blk wr w.heap.size 24 #[.slice A g.length cp]) (fun _ i _ => n - (intOf i).toNat)
      case atStart => exact ⟨0, by omega, rfl, World.ownsRow_nil _ _ _ _, hw2, hgx2⟩
      case round =>
        clear hw2 hgx2
        obtain ⟨j, hj, rfl, HO, hwr, hgx⟩ := hrel
        have hzr := hwr.size
        have hgl := hgx.lt
        obtain ⟨V, c2, rfl⟩ := own_form HO.out
        by_cases hjn : j < n
        · obtain ⟨ad, k, m, t, rfl, hab, hg, e0, e1, e2⟩ := reads_case (HLL.out.below hwr) hjn
          obtain ⟨hlk, hft⟩ := HFI.out j _ hg
          have hk3 : k = 1 ∨ k = 2 ∨ k = 4 := fit_kind hft
          simp only at hlk
          clear hft
          have had : ad.block < wr.heap.size := by omega
          have hji : (j : Int) < (n : Int) := by omega
          have g0 : wr.cell? ⟨w.heap.size, 0, none⟩ = some (.slice A g.length cp) := hgx.cell 0
          have HG := Lib.hid hg
          clear hg
          go_wp2_with fail
          refine (HAC.out _ (by repeat (first | exact Below.refl _ _ | assumption | refine Below.drew ?_ | refine below_drewN ?_ _ | refine Below.alloc ?_ (by first | omega | (simp; omega) | simp) _ | refine Below.setCell ?_ (by first | omega | (simp; omega) | simp) _)) t).mono ?_
          rintro e w3 ⟨rfl, hb3⟩
          have hx3 : Blk w3 wr.heap.size 90 #[.int .i64 k, .int .i64 m, .string t] := (blk_at rfl).below hb3 (by simp)
          have hgx3 := (hgx.alloc _).below hb3 (by simp; omega)
          have hO3 := own_below (HO.out.alloc (.cells #[.int .i64 k, .int .i64 m, .string t] 90)) hb3
          have hw3 : Below w.heap.size w w3 := (hwr.alloc hzr _).trans (hb3.mono (by simp; omega))
          have hz3 := hw3.size
          have hxl := hx3.lt
          have hgl3 := hgx3.lt
          have x0 : w3.cell? ⟨wr.heap.size, 0, none⟩ = some (.int .i64 k) := hx3.cell 0
          have x1 : w3.cell? ⟨wr.heap.size, 1, none⟩ = some (.int .i64 m) := hx3.cell 1
          have x2 : w3.cell? ⟨wr.heap.size, 2, none⟩ = some (.string t) := hx3.cell 2
          have g3 : w3.cell? ⟨w.heap.size, 0, none⟩ = some (.slice A g.length cp) := hgx3.cell 0
          rw [hlk]
          have HO3 := Lib.hid hO3
          clear hb3 HO e0 e1 e2 g0 hO3
          rcases hk3 with rfl | rfl | rfl
          · have HT : Hid (tellB g (1, m, t) = accG g t) := by show _ = _; unfold tellB; simp
            generalize accG g t = y at HT ⊢
            go_wp2_with (at_builtin; refine wpList_append_own _ rfl _ _ _ rfl (w.heap.size + 1) 4 i0 _ 1 1 Try.underlying78 hi0 hz0 hz1 hz2 rfl (by decide) _ _ _ rfl (HO3.out.alloc _) ⟨w3.heap.size, 0, none⟩ 1 1 [.bool y] rfl rfl (new_cells w3 4 [.bool y]) (by simp [Value.oneCell']) (by unfold maxLen; omega) (by omega) (by simp; omega) ?_; intro v' w4 hown4 hgr4 _; obtain ⟨V4, c4, rfl⟩ := own_form hown4)
            have hw4 : Below w.heap.size w w4 := below_app (hw3.alloc hz3 _) (HO3.out.alloc _) hgr4 (by simp; omega) (by omega)
            have hgx4 := (hgx3.alloc (.cells #[.bool y] 4)).grown hgr4 (own_ne HO3.out (by omega))
            rw [tell_snoc HG.out HT.out] at hown4
            go_roundw
            case rel => exact ⟨j + 1, by omega, by go_num, hown4, hw4, hgx4⟩
            case measure => simp [intOf]; omega
          · have HT : Hid (tellB g (2, m, t) = (!accG g t)) := by show _ = _; unfold tellB; simp
            generalize accG g t = y at HT ⊢
            go_wp2_with (at_builtin; refine wpList_append_own _ rfl _ _ _ rfl (w.heap.size + 1) 4 i0 _ 1 1 Try.underlying78 hi0 hz0 hz1 hz2 rfl (by decide) _ _ _ rfl (HO3.out.alloc _) ⟨w3.heap.size, 0, none⟩ 1 1 [.bool (!y)] rfl rfl (new_cells w3 4 [.bool (!y)]) (by simp [Value.oneCell']) (by unfold maxLen; omega) (by omega) (by simp; omega) ?_; intro v' w4 hown4 hgr4 _; obtain ⟨V4, c4, rfl⟩ := own_form hown4)
            have hw4 : Below w.heap.size w w4 := below_app (hw3.alloc hz3 _) (HO3.out.alloc _) hgr4 (by simp; omega) (by omega)
            have hgx4 := (hgx3.alloc (.cells #[.bool (!y)] 4)).grown hgr4 (own_ne HO3.out (by omega))
            rw [tell_snoc HG.out HT.out] at hown4
            go_roundw
            case rel => exact ⟨j + 1, by omega, by go_num, hown4, hw4, hgx4⟩
            case measure => simp [intOf]; omega
          · have HT : Hid (tellB g (4, m, t) = ((outG g t).isSome && decide ((((outG g t).getD 0 : Nat) : Int) = m))) := by show _ = _; unfold tellB; simp
            go_wp2_with fail
            refine (HRN.out _ (by repeat (first | exact Below.refl _ _ | assumption | refine Below.drew ?_ | refine below_drewN ?_ _ | refine Below.alloc ?_ (by first | omega | (simp; omega) | simp) _ | refine Below.setCell ?_ (by first | omega | (simp; omega) | simp) _)) t).mono ?_
            rintro e w5 ⟨hb5, hq⟩
            rcases hq with ⟨hne, rfl⟩ | ⟨-, o, σ1, V5, lc, l', ⟨m5, hpk⟩, ha, ht5, hl5, rfl, ho5⟩
            · exact absurd hlk hne
            obtain ⟨h1, -⟩ := run_out hlk hpk
            rw [h1] at HT
            have hx5 := hx3.below hb5 hxl
            have hgx5 := hgx3.below hb5 hgl3
            have hO5 := own_below HO3.out hb5
            have hw5 := hw3.trans (hb5.mono hz3)
            have hz5 := hw5.size
            have hxl5 := hx5.lt
            have hgl5 := hgx5.lt
            have y0 : w5.cell? ⟨wr.heap.size, 0, none⟩ = some (.int .i64 4) := hx5.cell 0
            have y1 : w5.cell? ⟨wr.heap.size, 1, none⟩ = some (.int .i64 m) := hx5.cell 1
            have HO5 := Lib.hid hO5
            clear ha ht5 hl5 ho5 hpk h1 hb5 hO5 HO3 x0 x1 x2 g3
            rw [outV_eq]
            generalize σ1.log.length = ll
            cases o with
            | none =>
              replace HT : Hid (tellB g (4, m, t) = false) := HT.out
              have hnc : ∀ (u : Nat) (v : Value), [Value.bool false][u]? = some v → ((w5.alloc (.cells #[.bool false, .int .i64 0] 47)).alloc (.cells #[.bool false] 4)).cell? ((⟨w5.heap.size + 1, 0, none⟩ : Addr).add u) = some v := by
                have h1 := new_cells (w5.alloc (.cells #[.bool false, .int .i64 0] 47)) 4 [.bool false]
                rw [show (w5.alloc (.cells #[.bool false, .int .i64 0] 47)).heap.size = w5.heap.size + 1 by simp] at h1
                exact h1
              have HNC := Lib.hid hnc
              clear hnc
              go_wp2_with (at_builtin; refine wpList_append_own _ rfl _ _ _ rfl (w.heap.size + 1) 4 i0 _ 1 1 Try.underlying78 hi0 hz0 hz1 hz2 rfl (by decide) _ _ _ rfl ((HO5.out.alloc _).alloc _) ⟨w5.heap.size + 1, 0, none⟩ 1 1 [.bool false] rfl rfl HNC.out (by simp [Value.oneCell']) (by unfold maxLen; omega) (by omega) (by simp; omega) ?_; intro v' w6 hown6 hgr6 _; obtain ⟨V6, c6, rfl⟩ := own_form hown6)
              have hw6 : Below w.heap.size w w6 := below_app ((hw5.alloc hz5 _).alloc (by simp; omega) _) ((HO5.out.alloc _).alloc _) hgr6 (by simp; omega) (by omega)
              have hgx6 := ((hgx5.alloc (.cells #[.bool false, .int .i64 0] 47)).alloc (.cells #[.bool false] 4)).grown hgr6 (own_ne HO5.out (by omega))
              rw [tell_snoc HG.out HT.out] at hown6
              go_roundw
              case rel => exact ⟨j + 1, by omega, by go_num, hown6, hw6, hgx6⟩
              case measure => simp [intOf]; omega
            | some k =>
              replace HT : Hid (tellB g (4, m, t) = ((k : Int) == m)) := HT.out
              simp only [Option.isSome_some, Option.getD_some]
              have hnc : ∀ (u : Nat) (v : Value), [Value.bool ((k : Int) == m)][u]? = some v → ((w5.alloc (.cells #[.bool true, .int .i64 k] 47)).alloc (.cells #[.bool ((k : Int) == m)] 4)).cell? ((⟨w5.heap.size + 1, 0, none⟩ : Addr).add u) = some v := by
                have h1 := new_cells (w5.alloc (.cells #[.bool true, .int .i64 k] 47)) 4 [.bool ((k : Int) == m)]
                rw [show (w5.alloc (.cells #[.bool true, .int .i64 k] 47)).heap.size = w5.heap.size + 1 by simp] at h1
                exact h1
              have HNC := Lib.hid hnc
              clear hnc
              go_wp2_with (at_builtin; refine wpList_append_own _ rfl _ _ _ rfl (w.heap.size + 1) 4 i0 _ 1 1 Try.underlying78 hi0 hz0 hz1 hz2 rfl (by decide) _ _ _ rfl ((HO5.out.alloc _).alloc _) ⟨w5.heap.size + 1, 0, none⟩ 1 1 [.bool ((k : Int) == m)] rfl rfl HNC.out (by simp [Value.oneCell']) (by unfold maxLen; omega) (by omega) (by simp; omega) ?_; intro v' w6 hown6 hgr6 _; obtain ⟨V6, c6, rfl⟩ := own_form hown6)
              have hw6 : Below w.heap.size w w6 := below_app ((hw5.alloc hz5 _).alloc (by simp; omega) _) ((HO5.out.alloc _).alloc _) hgr6 (by simp; omega) (by omega)
              have hgx6 := ((hgx5.alloc (.cells #[.bool true, .int .i64 k] 47)).alloc (.cells #[.bool ((k : Int) == m)] 4)).grown hgr6 (own_ne HO5.out (by omega))
              rw [tell_snoc HG.out HT.out] at hown6
              go_roundw
              case rel => exact ⟨j + 1, by omega, by go_num, hown6, hw6, hgx6⟩
              case measure => simp [intOf]; omega
        · obtain rfl : j = n := by omega
          have hr := HO.out
          rw [List.take_of_length_le (by rw [HN.out]; omega)] at hr
          have hR := Reads.of_own hr
          have hform : l ≠ [] → l.length ≤ c2 ∧ ∃ F, V = some ⟨F, 0, none⟩ := fun hne => by
            have h1 := List.length_pos_iff.2 hne
            have h2 := HN.out
            rcases hr.2 with ⟨_, h0⟩ | ⟨g, cap, _, hv, _, _, hnc, _⟩
            · omega
            · simp only [Value.slice.injEq, true_and] at hv
              obtain ⟨rfl, rfl⟩ := hv
              exact ⟨by omega, g, rfl⟩
          have hq := (HBQ (.returned (.tuple #[.slice V j c2, .int .i64 0])) wr).out hwr ⟨V, c2, hform, rfl, hR⟩
          have HQ := Lib.hid hq
          clear hq hr hR HO hform
          go_wp2
          go_ret2
          exact HQ.out
    · have HBQ : ∀ e w', Hid (Below w.heap.size w w' → e = .returned (.tuple #[.slice none 0 0, .int .i64 (bchkC l)]) → BRunQ g l w e w') := fun e w' hb h => ⟨hb, .inr (.inl ⟨hw0, hc0, h⟩)⟩
      generalize bchkC l = y at hc0 HCK HBQ
      have hyb : (y != 0) = true := by rw [bne_iff_ne]; exact hc0
      clear hc0
      go_enter Try.func44, Try.ntmps44
      go_wp2_with fail
      refine (HW.out _ (by repeat (first | exact Below.refl _ _ | assumption | refine Below.drew ?_ | refine below_drewN ?_ _ | refine Below.alloc ?_ (by first | omega | (simp; omega) | simp) _ | refine Below.setCell ?_ (by first | omega | (simp; omega) | simp) _))).mono ?_
      unfold WellQ
      rintro e w1 ⟨rfl, hb1⟩
      have hw1 : Below w.heap.size w w1 := ((Below.refl _ w).alloc (Nat.le_refl _) _).trans (hb1.mono (by simp))
      clear hb1
      rw [hw0]
      generalize (wellG g).1 = x1
      go_wp2_with fail
      refine (HCK.out _ hw1).mono ?_
      rintro e w2 ⟨rfl, hb2⟩
      have hw2 := hw1.trans (hb2.mono hw1.size)
      clear hb2 hw1
      go_wp2
      go_ret2
      exact (HBQ _ _).out hw2 rfl
  · have HBQ : ∀ e w', Hid (Below w.heap.size w w' → e = .returned (.tuple #[.slice none 0 0, .int .i64 (wellG g).2]) → BRunQ g l w e w') := fun e w' hb h => ⟨hb, .inl ⟨hw0, h⟩⟩
    unfold WellQ at HW
    generalize (wellG g).1 = x1 at HW
    generalize (wellG g).2 = y at hw0 HW HBQ
    have hyb : (y != 0) = true := by rw [bne_iff_ne]; exact hw0
    clear hw0
    go_enter Try.func44, Try.ntmps44
    go_wp2_with fail
    refine (HW.out _ (by repeat (first | exact Below.refl _ _ | assumption | refine Below.drew ?_ | refine below_drewN ?_ _ | refine Below.alloc ?_ (by first | omega | (simp; omega) | simp) _ | refine Below.setCell ?_ (by first | omega | (simp; omega) | simp) _))).mono ?_
    rintro e w1 ⟨rfl, hb1⟩
    have hw1 : Below w.heap.size w w1 := ((Below.refl _ w).alloc (Nat.le_refl _) _).trans (hb1.mono (by simp))
    clear hb1
    go_wp2
    go_ret2
    exact (HBQ _ _).out hw1 rfl
end Go.Proofs.Ytjmckmjngnmagaa
