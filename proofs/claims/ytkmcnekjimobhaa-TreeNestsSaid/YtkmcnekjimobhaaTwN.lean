/- TreeNests: the walk of the law. -/
import Derived.Test.YtkmcnekjimobhaaTwG
import Derived.Test.YtkmcnekjimobhaaGF
namespace Go.Proofs.Ytkmcnekjimobhaa
open Go.RowKit Go.Maps

def oneX : List Rl := [(nameA, litE ⟨#[120]⟩)]
theorem onex_look : lookG oneX ⟨#[120, 120]⟩ = 0 := by decide +kernel
theorem onex_ev : ev oneX [120, 120] 1 (litE ⟨#[120]⟩) 0 = some (some 1) := by decide +kernel
theorem wf_litX (t : ByteArray) : WfE (litE t) := .mk _ _ _ _ _ _ _ (by unfold I64; omega) (by unfold U64; omega) (by unfold U64; omega) (by unfold U64; omega) (by unfold U64; omega) (fun e h => by cases h)
theorem wf_oneX : ∀ r ∈ oneX, WfE r.2 := fun r hr => by
  unfold oneX at hr
  simp only [List.mem_singleton] at hr
  subst hr
  exact wf_litX _
theorem tr_leaf (w : World) (S : Nat → Prop) (r f u : Int) : TrIs w S (.mk r f u []) [.int .i64 r, .int .i64 f, .int .i64 u, .slice none 0 0] :=
  .mk r f u [] none 0 (fun _ => []) (by simp) (by unfold maxLen; omega) (fun h => by simp at h) (fun i e h => by simp at h) (fun i e ad h => by simp at h)
theorem same_refl (t : Tr) : sameT t t = true := (sameT_eq t t).2 rfl
/-- what the tree of the first call is -/
theorem tof_one {w w' : World} {e : Ending} (h : TofQ oneX ⟨#[120, 120]⟩ w e w') : Below w.heap.size w w' ∧ ∃ V cp S, e = .returned (.tuple #[.agg #[.int .i64 0, .int .i64 0, .int .i64 1, .slice V 0 cp], .int .i64 0]) ∧ TrIs w' S (.mk 0 0 1 []) [.int .i64 0, .int .i64 0, .int .i64 1, .slice V 0 cp] ∧ ∀ b, S b → b < w'.heap.size := by
  obtain ⟨hb, h⟩ := h
  refine ⟨hb, ?_⟩
  have hr0 : oneX[0]? = some (nameA, litE ⟨#[120]⟩) := rfl
  rcases h with ⟨h1, _⟩ | ⟨_, ⟨r, hr, hs⟩, _⟩ | ⟨_, r, n, q, V, cp, S, hr, hev, he, hT, hS⟩
  · exact absurd onex_look h1
  · rw [hr0] at hr
    injection hr with hr
    subst hr
    have := hs.eq ⟨1, onex_ev⟩
    cases this
  · rw [hr0] at hr
    injection hr with hr
    subst hr
    have hq := (show Sem oneX [120, 120] (litE ⟨#[120]⟩) 0 (some q) from ⟨n, hev⟩).eq ⟨1, onex_ev⟩
    injection hq with hq
    subst hq
    have htr : trJ oneX [120, 120] n (.ex (litE ⟨#[120]⟩)) 0 = [] := by
      cases n with
      | zero => rfl
      | succ n => rfl
    have htr' : trJ oneX (ByteArray.mk #[120, 120]).data.toList n (.ex (litE ⟨#[120]⟩)) 0 = [] := htr
    rw [htr'] at he hT
    exact ⟨V, cp, S, he, hT, fun b hb => (hS b hb).2⟩

set_option maxRecDepth 100000 in
set_option maxHeartbeats 8000000 in
theorem walk_TreeNests {g : List Rl} {A : Option Addr} {cp : Nat} {row : Nat → List Value} (s : ByteArray) (w : World) (h : GrIs w w.heap.size g A cp row) (hwf : ∀ r ∈ g, WfE r.2) :
    Calls Try.prog 3 #[.agg #[.slice A g.length cp], .string s] w fun e w' => e = .returned (.bool true) ∧ Below w.heap.size w w' := by
  have hlit := lit_b ⟨#[120]⟩
  have hone := fun (W : World) => one_b (litE ⟨#[120]⟩) _ W (litE_is W _ (by decide))
  unfold exCells at hlit hone
  have HT1 := Lib.hid (fun W (hW : Below w.heap.size w W) => tof_any (h.grow hW) hwf s)
  have HP := Lib.hid (fun W (hW : Below w.heap.size w W) => run_any (h.grow hW) hwf s)
  have HL := Lib.hid hlit
  have HO := Lib.hid hone
  have HG := Lib.hid h
  have HWF := Lib.hid hwf
  clear hlit hone h hwf
  go_enter Try.func3, Try.ntmps3
  go_wp2_with fail
  refine (HL.out _).mono ?_
  rintro e w1 ⟨rfl, hb1⟩
  have hgx : Blk w1 w.heap.size 24 #[.slice A g.length cp] := (blk_at rfl).below hb1 (by simp)
  have hw1 : Below w.heap.size w w1 := ((Below.refl _ w).alloc (Nat.le_refl _) _).trans (hb1.mono (by simp))
  clear hb1
  go_wp2_with fail
  refine (HO.out _).mono ?_
  rintro e w2 ⟨b, rfl, hG1, hb2⟩
  have hgx2 := hgx.below hb2 hgx.lt
  have hw2 := hw1.trans (hb2.mono hw1.size)
  clear hb2 hgx hw1
  go_wp2_with fail
  refine (tof_any hG1 wf_oneX ⟨#[120, 120]⟩).mono ?_
  rintro e w3 hq
  obtain ⟨hb3, V1, c1, S1, rfl, hT1, hS1⟩ := tof_one hq
  have hgx3 := hgx2.below hb3 hgx2.lt
  have hw3 := hw2.trans (hb3.mono hw2.size)
  have hgl3 := hgx3.lt
  have hz3 := hw3.size
  clear hb3 hgx2 hw2 hq hG1
  have hsm : ∀ W, Below w3.heap.size w3 W → Calls Try.prog 14 #[.agg #[.int .i64 0, .int .i64 0, .int .i64 1, .slice V1 0 c1], .agg #[.int .i64 0, .int .i64 0, .int .i64 1, .slice none 0 0]] W fun e w' => e = .returned (.bool true) ∧ Below W.heap.size W w' := fun W hW => by
    have := same_any (.mk 0 0 1 []) (.mk 0 0 1 []) _ _ W S1 (hT1.keep (fun _ h => h) fun p hp => hW.cell (hS1 _ hp)) (tr_leaf W S1 0 0 1) (fun b hb => by have := hS1 b hb; have := hW.size; omega)
    rw [same_refl] at this
    exact this
  have HSM := Lib.hid hsm
  clear hsm hT1 hS1
  go_wp2_with fail
  refine (HSM.out _ (by repeat (first | exact Below.refl _ _ | assumption | refine Below.drew ?_ | refine below_drewN ?_ _ | refine Below.alloc ?_ (by first | omega | (simp; omega) | simp) _ | refine Below.setCell ?_ (by first | omega | (simp; omega) | simp) _))).mono ?_
  rintro e w4 ⟨rfl, hb4⟩
  have hgx4 := (hgx3.alloc (.cells #[.int .i64 0, .int .i64 0, .int .i64 1, .slice V1 0 c1] 27)).below hb4 (by simp; omega)
  have hw4 : Below w.heap.size w w4 := (hw3.alloc hz3 _).trans (hb4.mono (by simp; omega))
  have hz4 := hw4.size
  have hgl4 := hgx4.lt
  have g4 : w4.cell? ⟨w.heap.size, 0, none⟩ = some (.slice A g.length cp) := hgx4.cell 0
  clear hb4 hgx3 hw3 hgl3 HSM
  have hlt := lookG_lt g s
  go_wp2_with fail
  refine (HP.out _ (by repeat (first | exact Below.refl _ _ | assumption | refine Below.drew ?_ | refine below_drewN ?_ _ | refine Below.alloc ?_ (by first | omega | (simp; omega) | simp) _ | refine Below.setCell ?_ (by first | omega | (simp; omega) | simp) _))).mono ?_
  rintro e w5 ⟨hb5, hq⟩
  have hgx5 := hgx4.below hb5 hgx4.lt
  have hw5 := hw4.trans (hb5.mono hw4.size)
  have hz5 := hw5.size
  have hgl5 := hgx5.lt
  have g5 : w5.cell? ⟨w.heap.size, 0, none⟩ = some (.slice A g.length cp) := hgx5.cell 0
  clear hb5 hgx4 hw4 g4 hgl4
  have HZ : Hid (∀ W, Calls Try.prog 14 #[.agg #[.int .i64 0, .int .i64 0, .int .i64 0, .slice none 0 0], .agg #[.int .i64 0, .int .i64 0, .int .i64 0, .slice none 0 0]] W fun e w' => e = .returned (.bool true) ∧ Below W.heap.size W w') := fun W => by
    have := same_any (.mk 0 0 0 []) (.mk 0 0 0 []) _ _ W (fun _ => False) (tr_leaf W _ 0 0 0) (tr_leaf W _ 0 0 0) (fun b hb => hb.elim)
    rw [same_refl] at this
    exact this
  rcases hq with ⟨hne, rfl⟩ | ⟨hl0, o, σ1, V, lc, l', ⟨m, hpk⟩, _, _, _, rfl, _⟩
  · have hx0 : (lookG g s != 0) = true := by rw [bne_iff_ne]; exact hne
    have hov : outV none = .agg #[.bool false, .int .i64 0] := rfl
    rw [hov]
    clear hov
    go_wp2_with fail
    refine (HT1.out _ (by repeat (first | exact Below.refl _ _ | assumption | refine Below.drew ?_ | refine below_drewN ?_ _ | refine Below.alloc ?_ (by first | omega | (simp; omega) | simp) _ | refine Below.setCell ?_ (by first | omega | (simp; omega) | simp) _))).mono ?_
    rintro e w6 ⟨hb6, hq6⟩
    have hw6 : Below w.heap.size w w6 := (hw5.alloc hz5 _).trans (hb6.mono (by simp; omega))
    have hz6 := hw6.size
    rcases hq6 with ⟨_, rfl⟩ | ⟨h0, _⟩ | ⟨h0, _⟩
    · unfold zeroTr
      clear hb6 hgx5 hw5 g5 HT1 HP hne
      generalize lookG g s = x at hx0 hlt ⊢
      go_wp2_with fail
      refine (HZ.out _).mono ?_
      rintro e w7 ⟨rfl, hb7⟩
      have hw7 : Below w.heap.size w w7 := (hw6.alloc hz6 _).trans (hb7.mono (by simp; omega))
      clear hb7
      go_wp2
      go_ret
      exact ⟨rfl, hw7⟩
    · exact absurd h0 hne
    · exact absurd h0 hne
  · obtain ⟨Wg, h60⟩ := look_zero hl0
    cases o with
    | none =>
      have hov : outV none = .agg #[.bool false, .int .i64 0] := rfl
      rw [hov]
      clear hov
      go_wp2_with fail
      refine (HT1.out _ (by repeat (first | exact Below.refl _ _ | assumption | refine Below.drew ?_ | refine below_drewN ?_ _ | refine Below.alloc ?_ (by first | omega | (simp; omega) | simp) _ | refine Below.setCell ?_ (by first | omega | (simp; omega) | simp) _))).mono ?_
      rintro e w6 ⟨hb6, hq6⟩
      have hw6 : Below w.heap.size w w6 := (hw5.alloc hz5 _).trans (hb6.mono (by simp; omega))
      have hz6 := hw6.size
      have hb5 : Blk w6 w5.heap.size 41 #[.bool false, .int .i64 0] := (blk_at rfl).below hb6 (by simp)
      have o0 : w6.cell? ⟨w5.heap.size, 0, none⟩ = some (.bool false) := hb5.cell 0
      have hol := hb5.lt
      rcases hq6 with ⟨h0, _⟩ | ⟨_, _, rfl⟩ | ⟨_, r, n, q, V2, c2, S2, hr, hev, _⟩
      · exact absurd hl0 h0
      · unfold zeroTr
        clear hb6 hgx5 hw5 g5 HT1 HP hpk hb5
        go_wp2_with fail
        refine (HZ.out _).mono ?_
        rintro e w7 ⟨rfl, hb7⟩
        have hw7 : Below w.heap.size w w7 := (hw6.alloc hz6 _).trans (hb7.mono (by simp; omega))
        clear hb7
        go_wp2
        go_ret
        exact ⟨rfl, hw7⟩
      · have := sem_run Wg hr hev hpk
        cases this
    | some z =>
      have hov : outV (some z) = .agg #[.bool true, .int .i64 z] := rfl
      rw [hov]
      clear hov
      go_wp2_with fail
      refine (HT1.out _ (by repeat (first | exact Below.refl _ _ | assumption | refine Below.drew ?_ | refine below_drewN ?_ _ | refine Below.alloc ?_ (by first | omega | (simp; omega) | simp) _ | refine Below.setCell ?_ (by first | omega | (simp; omega) | simp) _))).mono ?_
      rintro e w6 ⟨hb6, hq6⟩
      have hw6 : Below w.heap.size w w6 := (hw5.alloc hz5 _).trans (hb6.mono (by simp; omega))
      have hz6 := hw6.size
      have hb5 : Blk w6 w5.heap.size 41 #[.bool true, .int .i64 z] := (blk_at rfl).below hb6 (by simp)
      have hgx6 := (hgx5.alloc (.cells #[.bool true, .int .i64 z] 41)).below hb6 (by simp; omega)
      have o0 : w6.cell? ⟨w5.heap.size, 0, none⟩ = some (.bool true) := hb5.cell 0
      have o1 : w6.cell? ⟨w5.heap.size, 1, none⟩ = some (.int .i64 z) := hb5.cell 1
      have g6 : w6.cell? ⟨w.heap.size, 0, none⟩ = some (.slice A g.length cp) := hgx6.cell 0
      have hol := hb5.lt
      have hgl6 := hgx6.lt
      rcases hq6 with ⟨h0, _⟩ | ⟨_, ⟨r, hr, n, hs⟩, _⟩ | ⟨_, r, n, q, V2, c2, S2, hr, hev, rfl, hT2, hS2⟩
      · exact absurd hl0 h0
      · have := sem_run Wg hr hs hpk
        cases this
      · have hzq := sem_run Wg hr hev hpk
        injection hzq with hzq
        subst hzq
        have hnest : NestT g s.data.toList (.mk 0 0 z (trJ g s.data.toList n (.ex r.2) 0)) := .mk 0 0 z r n _ hr hev (nests n (.ex r.2) 0 z hev)
        have hsl : s.data.toList.length = s.size := size_list s
        have hz60 : z ≤ s.size := by
          have := ((told (s := s.data.toList) (fits_of Wg.right) n).1 r.2 0 _ (Wg.right.rt r (List.mem_of_getElem? hr)) (by omega) hev).2.1
          omega
        generalize trJ g s.data.toList n (.ex r.2) 0 = KS at hT2 hnest ⊢
        have hnc : ∀ W, Below w6.heap.size w6 W → Calls Try.prog 16 #[.agg #[.slice A g.length cp], .string s, .agg #[.int .i64 0, .int .i64 0, .int .i64 z, .slice V2 KS.length c2]] W fun e w' => e = .returned (.bool true) ∧ Below W.heap.size W w' := fun W hW =>
          nested_any hl0 HWF.out (.mk 0 0 z KS) _ W S2 A cp row (HG.out.grow (hw6.trans (hW.mono hw6.size))) (hT2.keep (fun _ h => h) fun p hp => hW.cell (hS2 _ hp).2) (fun b hb => by have := (hS2 b hb).2; have := hW.size; omega) hnest (by show (z : Int) ≤ s.size; omega)
        have HNC := Lib.hid hnc
        clear hnc hT2 hS2 hnest hev hr hpk hb6 hgx5 hw5 g5 HT1 HP hb5 hgx6
        generalize KS.length = kn at HNC ⊢
        go_wp2_with fail
        refine (HNC.out _ (by repeat (first | exact Below.refl _ _ | assumption | refine Below.drew ?_ | refine below_drewN ?_ _ | refine Below.alloc ?_ (by first | omega | (simp; omega) | simp) _ | refine Below.setCell ?_ (by first | omega | (simp; omega) | simp) _))).mono ?_
        rintro e w7 ⟨rfl, hb7⟩
        have hw7 : Below w.heap.size w w7 := (hw6.alloc hz6 _).trans (hb7.mono (by simp; omega))
        clear hb7
        go_wp2
        go_ret
        exact ⟨rfl, hw7⟩
end Go.Proofs.Ytkmcnekjimobhaa
