/- CodeSafe: the walk of the law. The law CodeSafe: for every input it returns true, and each argument reads afterwards as it read before. The frame is written by a program of ours after the guide's own shell; the walk is in the text it imports. Conditions: none but the statement's own. -/
import Derived.Test.YtkmcnekjimobhaaJCodeMeans26
import Derived.Test.YtkmcnekjimobhaaRows
import Derived.Test.YtkmcnekjimobhaaJCodeMeans4
import Derived.Test.YtkmcnekjimobhaaJCodeMeans3
namespace Go.Proofs.Ytkmcnekjimobhaa
open Go.RowKit

theorem runM_ten (l : List In) (s : List UInt8) : ∀ (k : Nat) (m : MS), (runM l s k m).2.2 = 10 → runM l s k m = (false, 0, 10)
  | 0, m, h => by
    rw [runM.eq_def] at h ⊢
    dsimp only at h ⊢
    cases hx : l[m.pc]? with
    | none => rw [hx] at h; cases h
    | some x => rfl
  | k + 1, m, h => by
    rw [runM.eq_def] at h ⊢
    dsimp only at h ⊢
    cases hx : l[m.pc]? with
    | none => rw [hx] at h; cases h
    | some x =>
      rw [hx] at h
      dsimp only at h ⊢
      by_cases h8 : x.op = 8
      · rw [if_pos h8] at h; cases h
      · rw [if_neg h8] at h ⊢
        cases ho : oneM s x m with
        | error e => rw [ho] at h; dsimp only at h ⊢; rw [h]
        | ok m' =>
          rw [ho] at h
          exact runM_ten l s k m' h
theorem code_large {g : List Rl} (hm : makR g = 0) {s : List UInt8} (h60 : 60 < s.length) (i : Int) : codeM (codeG g) s i = (false, 0, 2) := by
  obtain ⟨W, _, hl⟩ := makR_zero hm
  unfold codeM
  rw [codeG_ok W.right.pos W.right.rt hl, if_neg (by simp), if_pos h60]
theorem code_safe {g : List Rl} (hm : makR g = 0) {s : List UInt8} (h60 : s.length ≤ 60) {r : Rl} (hr : g[0]? = some r) {n : Nat} {o : Option Nat} (h : evJ g s n (.ex r.2) 0 = some o) (i : Nat) (hi : i < 100000) : codeM (codeG g) s i = (false, 0, 10) ∨ codeM (codeG g) s i = outN o := by
  obtain ⟨W, _, hl⟩ := makR_zero hm
  obtain ⟨k, hk, hf⟩ := code_runs W h60 hr h
  unfold codeM
  rw [codeG_ok W.right.pos W.right.rt hl, if_neg (by simp), if_neg (by omega), if_neg (by omega)]
  by_cases h10 : (runM (codeG g) s (i : Int).toNat ⟨0, 0, []⟩).2.2 = 10
  · exact .inl (runM_ten _ _ _ _ h10)
  · refine .inr ?_
    rw [← runM_more _ _ (k + 1) _ _ h10, ← hf i]
    rw [show (i : Int).toNat + (k + 1) = k + 1 + i from by omega]
theorem commit_nine : codeM [⟨4, 0, 0, 0, 0, 0⟩] [] 9 = (false, 0, 13) := by decide
def comI : List In := [⟨4, 0, 0, 0, 0, 0⟩]

set_option maxRecDepth 100000 in
set_option maxHeartbeats 8000000 in
theorem walk_CodeSafe {g : List Rl} {A : Option Addr} {cp : Nat} {row : Nat → List Value} (s : ByteArray) (steps : Int) (w : World) (hs : s.size ≤ 140737488351232) (h : GrIs w w.heap.size g A cp row) (hwf : ∀ r ∈ g, WfE r.2) :
    Calls Try.prog 6 #[.agg #[.slice A g.length cp], .string s, .int .i64 steps] w fun e w' => e = .returned (.bool true) ∧ Below w.heap.size w w' := by
  have hso := run_same_out
  have HMK := Lib.hid (fun W (hW : Below w.heap.size w W) => make_any (h.grow hW) hwf)
  have HWL := Lib.hid (fun W (hW : Below w.heap.size w W) => well_any (h.grow hW))
  have HKR := Lib.hid (fun W (hW : Below w.heap.size w W) => kernel_any (h.grow hW))
  have HP := Lib.hid (fun W (hW : Below w.heap.size w W) => run_any (h.grow hW) hwf s)
  have HWD := Lib.hid (codeG_words hwf)
  have hwi := fun W => within_any steps 100000 (by decide) (by decide) W
  have hi : wiN steps 100000 < 100000 := wiN_lt _ (by decide)
  generalize wiN steps 100000 = i at hi hwi
  have HWI := Lib.hid hwi
  have hgx0 : Blk (w.alloc (.cells #[.slice A g.length cp] 24)) w.heap.size 24 #[.slice A g.length cp] := blk_at rfl
  have hw0 : Below w.heap.size w (w.alloc (.cells #[.slice A g.length cp] 24)) := (Below.refl _ w).alloc (Nat.le_refl _) _
  have hbk : Blk ((w.alloc (.cells #[.slice A g.length cp] 24)).alloc (.cells #[.int .i64 4, .int .i64 0, .int .u64 0, .int .u64 0, .int .u64 0, .int .u64 0] 62)) (w.alloc (.cells #[.slice A g.length cp] 24)).heap.size 62 #[.int .i64 4, .int .i64 0, .int .u64 0, .int .u64 0, .int .u64 0, .int .u64 0] := blk_at rfl
  have hcr := crun_any (some ⟨w.heap.size + 1, 0, none⟩) 1 1 comI _ _ (reads_insts (l := comI) (b := w.heap.size + 1) (by simpa using hbk) rfl (by simp)) (Nat.le_refl _) (by unfold maxLen; omega) (fun x hx => by
    unfold comI at hx
    rw [List.mem_singleton.1 hx]
    exact words0) ⟨#[]⟩ 9 (by show I64 0; unfold I64; omega) (by unfold I64; omega)
  rw [show codeM comI (ByteArray.mk #[]).data.toList 9 = (false, 0, 13) from commit_nine, show outCR (false, 0, 13) = .tuple #[.agg #[.bool false, .int .i64 0], .int .i64 13] from rfl] at hcr
  have HCR := Lib.hid hcr
  clear hbk hcr h hwf hwi
  go_enter Try.func6, Try.ntmps6
  go_wp2_with fail
  refine (HCR.out).mono ?_
  rintro e w1 ⟨rfl, hb1⟩
  have hgx1 := (hgx0.alloc _).below hb1 (by simp; omega)
  have hw1 := (hw0.alloc (by simp) _).trans (hb1.mono (by simp; omega))
  have hz1 := hw1.size
  have g1 : w1.cell? ⟨w.heap.size, 0, none⟩ = some (.slice A g.length cp) := hgx1.cell 0
  have hgl1 := hgx1.lt
  clear hb1 hgx0 hw0 HCR
  have hgx1' := hgx1.alloc (.cells #[.bool false, .int .i64 0] 41)
  have hw1' := hw1.alloc hz1 (.cells #[.bool false, .int .i64 0] 41)
  go_wp2_with fail
  refine (HMK.out _ hw1').mono ?_
  rintro e w2 ⟨hb2, hq⟩
  have hgx2 := hgx1'.below hb2 hgx1'.lt
  have hw2 := hw1'.trans (hb2.mono hw1'.size)
  have hz2 := hw2.size
  have g2 : w2.cell? ⟨w.heap.size, 0, none⟩ = some (.slice A g.length cp) := hgx2.cell 0
  have hgl2 := hgx2.lt
  clear hb2 hgx1 hw1 hgx1' hw1' g1
  rcases hq with ⟨hne, rfl⟩ | ⟨hmz, V, c, rfl, ho⟩
  · obtain ⟨wa, wl, hw12⟩ : ∃ a b, wellG g = (a, b) := ⟨_, _, rfl⟩
    have hwq := HWL.out
    unfold WellQ at hwq
    simp only [hw12] at hwq
    have hmk : (wl ≠ 0 ∧ makR g = wl) ∨ (wl = 0 ∧ makR g = kerR g) := by
      unfold makR
      rw [hw12]
      by_cases h0 : wl = 0
      · exact .inr ⟨h0, if_neg (by simpa using h0)⟩
      · exact .inl ⟨h0, if_pos h0⟩
    have HWQ := Lib.hid hwq
    clear hwq hw12 HWL HP
    rcases hmk with ⟨h0, hmk⟩ | ⟨h0, hmk⟩
    · rw [hmk] at hne ⊢
      clear hmk
      have hx0 : (wl != 0) = true := by rw [bne_iff_ne]; exact hne
      have hx1 : ¬ wl = 0 := hne
      clear h0
      go_wp2_with fail
      refine (HWQ.out _ hw2).mono ?_
      rintro e w3 ⟨rfl, hb3⟩
      have hgx3 := hgx2.below hb3 hgx2.lt
      have hw3 := hw2.trans (hb3.mono hw2.size)
      have hz3 := hw3.size
      have g3 : w3.cell? ⟨w.heap.size, 0, none⟩ = some (.slice A g.length cp) := hgx3.cell 0
      have hgl3 := hgx3.lt
      clear hb3 hgx2 hw2 g2 HWQ
      go_wp2_with fail
      refine (HKR.out _ hw3).mono ?_
      rintro e w4 ⟨hb4, hq4⟩
      have hw4 := hw3.trans (hb4.mono hw3.size)
      have hz4 := hw4.size
      clear hb4 hgx3 hw3 g3 HKR
      rcases hq4 with ⟨hk, rfl⟩ | ⟨hk, V4, c4, rows4, rfl, _⟩
      · generalize kerR g = kr
        clear hk
        go_wp2
        go_ret
        exact ⟨by simp, (by repeat (first | exact Below.refl _ _ | assumption | refine Below.drew ?_ | refine below_drewN ?_ _ | refine Below.alloc ?_ (by first | omega | (simp; omega) | simp) _ | refine Below.setCell ?_ (by first | omega | (simp; omega) | simp) _))⟩
      · clear hk
        go_wp2
        go_ret
        exact ⟨by simp, (by repeat (first | exact Below.refl _ _ | assumption | refine Below.drew ?_ | refine below_drewN ?_ _ | refine Below.alloc ?_ (by first | omega | (simp; omega) | simp) _ | refine Below.setCell ?_ (by first | omega | (simp; omega) | simp) _))⟩
    · rw [hmk] at hne ⊢
      clear hmk
      subst h0
      obtain ⟨y, hy⟩ : ∃ y, y = kerR g := ⟨_, rfl⟩
      rw [← hy] at hne ⊢
      have hx0 : (y != 0) = true := by rw [bne_iff_ne]; exact hne
      have hx1 : ¬ y = 0 := hne
      have hx2 : (y == 0) = false := by rw [beq_eq_false_iff_ne]; exact hne
      have HY := Lib.hid hy
      clear hy
      go_wp2_with fail
      refine (HWQ.out _ hw2).mono ?_
      rintro e w3 ⟨rfl, hb3⟩
      have hgx3 := hgx2.below hb3 hgx2.lt
      have hw3 := hw2.trans (hb3.mono hw2.size)
      have hz3 := hw3.size
      have g3 : w3.cell? ⟨w.heap.size, 0, none⟩ = some (.slice A g.length cp) := hgx3.cell 0
      have hgl3 := hgx3.lt
      clear hb3 hgx2 hw2 g2 HWQ
      go_wp2_with fail
      refine (HKR.out _ hw3).mono ?_
      rintro e w4 ⟨hb4, hq4⟩
      have hw4 := hw3.trans (hb4.mono hw3.size)
      have hz4 := hw4.size
      clear hb4 hgx3 hw3 g3 HKR
      rcases hq4 with ⟨hk, rfl⟩ | ⟨hk, V4, c4, rows4, rfl, _⟩
      · rw [← HY.out]
        clear hk HY
        go_wp2
        go_ret
        exact ⟨by simp, (by repeat (first | exact Below.refl _ _ | assumption | refine Below.drew ?_ | refine below_drewN ?_ _ | refine Below.alloc ?_ (by first | omega | (simp; omega) | simp) _ | refine Below.setCell ?_ (by first | omega | (simp; omega) | simp) _))⟩
      · rw [← HY.out] at hk
        exact absurd hk hne
  · obtain ⟨Wg, hkz, hlr⟩ := makR_zero hmz
    have hln : (codeG g).length ≤ 6000 := by rw [codeG_len]; exact hlr
    have hrun2 := fun W (hW : Below w2.heap.size w2 W) => crun_any V (codeG g).length c (codeG g) W.heap.size W (((Reads.of_own ho).below hW).more hW.size) (Nat.le_refl _) (by unfold maxLen; omega) HWD.out s (i : Int) (by unfold I64; omega) (by unfold I64; omega)
    have hsl : s.data.toList.length = s.size := size_list s
    generalize hcl : (codeG g).length = cl at hrun2 ⊢
    by_cases hbig : 60 < s.size
    · have hsb : (60 : Int) < (s.size : Int) := by omega
      rw [code_large hmz (by omega), show outCR (false, 0, 2) = .tuple #[.agg #[.bool false, .int .i64 0], .int .i64 2] from rfl] at hrun2
      have HRUN := Lib.hid hrun2
      clear hrun2 ho hcl hln hlr hkz hmz
      go_wp2_with fail
      refine (HWI.out _).mono ?_
      rintro e w3 ⟨rfl, hb3⟩
      have hw3 := hw2.trans (hb3.mono hw2.size)
      have hz3 := hw3.size
      have hbb := (Below.refl w2.heap.size w2).trans (hb3.mono (Nat.le_refl _))
      clear hb3
      go_wp2_with fail
      refine (HRUN.out _ hbb).mono ?_
      rintro e w4 ⟨rfl, hb4⟩
      have hw4 := hw3.trans (hb4.mono hw3.size)
      have hz4 := hw4.size
      clear hb4 hbb
      go_wp2
      go_ret
      exact ⟨by simp, (by repeat (first | exact Below.refl _ _ | assumption | refine Below.drew ?_ | refine below_drewN ?_ _ | refine Below.alloc ?_ (by first | omega | (simp; omega) | simp) _ | refine Below.setCell ?_ (by first | omega | (simp; omega) | simp) _))⟩
    · have hsb : ¬ (60 : Int) < (s.size : Int) := by omega
      have h60 : s.size ≤ 60 := by omega
      have hl0 := look_of hmz h60
      obtain ⟨r, hr⟩ : ∃ r, g[0]? = some r := ⟨_, List.getElem?_eq_getElem Wg.right.pos⟩
      obtain ⟨o, m, σ1, ⟨n, hev⟩, _, _⟩ := rule_goes Wg s.data.toList hr (p := 0) (by omega)
      have hsafe := code_safe hmz (s := s.data.toList) (by omega) hr hev i hi
      have HS := Lib.hid (fun (m : Nat) (o' : Option Nat) (σ1 : PS) => sem_run (m := m) (o' := o') (σ1 := σ1) Wg hr hev)
      have HL0 := Lib.hid hl0
      rcases hsafe with hsf | hsf
      · rw [hsf, show outCR (false, 0, 10) = .tuple #[.agg #[.bool false, .int .i64 0], .int .i64 10] from rfl] at hrun2
        have HRUN := Lib.hid hrun2
        clear hrun2 ho hcl hln hlr hkz hmz hsf hr hev hl0 hsl
        go_wp2_with fail
        refine (HWI.out _).mono ?_
        rintro e w3 ⟨rfl, hb3⟩
        have hgx3 := hgx2.below hb3 hgx2.lt
        have hw3 := hw2.trans (hb3.mono hw2.size)
        have hz3 := hw3.size
        have hbb := (Below.refl w2.heap.size w2).trans (hb3.mono (Nat.le_refl _))
        clear hb3 hgx2 hw2 g2
        go_wp2_with fail
        refine (HRUN.out _ hbb).mono ?_
        rintro e w4 ⟨rfl, hb4⟩
        have hgx4 := hgx3.below hb4 hgx3.lt
        have hw4 := hw3.trans (hb4.mono hw3.size)
        have hz4 := hw4.size
        have g4 : w4.cell? ⟨w.heap.size, 0, none⟩ = some (.slice A g.length cp) := hgx4.cell 0
        have hgl4 := hgx4.lt
        have hox : Blk (w4.alloc (.cells #[.bool false, .int .i64 0] 41)) w4.heap.size 41 #[.bool false, .int .i64 0] := blk_at rfl
        have hw5 := hw4.alloc hz4 (.cells #[.bool false, .int .i64 0] 41)
        clear hb4 hbb hgx3 hw3
        go_wp2_with fail
        refine (HP.out _ hw5).mono ?_
        rintro e w6 ⟨hb6, hq6⟩
        have hw6 := hw5.trans (hb6.mono hw5.size)
        have hox6 := hox.below hb6 hox.lt
        have hz6 := hw6.size
        have hol := hox6.lt
        have o0 : w6.cell? ⟨w4.heap.size, 0, none⟩ = some (.bool false) := hox6.cell 0
        have o1 : w6.cell? ⟨w4.heap.size, 1, none⟩ = some (.int .i64 0) := hox6.cell 1
        rcases hq6 with ⟨hne, _⟩ | ⟨_, o', σ', V', cp', l', ⟨m', hpk⟩, _, _, _, rfl, _⟩
        · exact absurd HL0.out hne
        · rw [outV_eq]
          generalize o'.isSome = vb
          generalize ((o'.getD 0 : Nat) : Int) = vn
          generalize σ'.log.length = sl
          clear hb6 hox hw5 hox6 hpk g4 hgx4 hw4
          go_wp2
          go_ret
          exact ⟨by simp, (by repeat (first | exact Below.refl _ _ | assumption | refine Below.drew ?_ | refine below_drewN ?_ _ | refine Below.alloc ?_ (by first | omega | (simp; omega) | simp) _ | refine Below.setCell ?_ (by first | omega | (simp; omega) | simp) _))⟩
      · rw [hsf, outCR_N, outV_eq] at hrun2
        have HRUN := Lib.hid hrun2
        clear hrun2 ho hcl hln hlr hkz hmz hsf hr hev hl0 hsl
        go_wp2_with fail
        refine (HWI.out _).mono ?_
        rintro e w3 ⟨rfl, hb3⟩
        have hgx3 := hgx2.below hb3 hgx2.lt
        have hw3 := hw2.trans (hb3.mono hw2.size)
        have hz3 := hw3.size
        have hbb := (Below.refl w2.heap.size w2).trans (hb3.mono (Nat.le_refl _))
        clear hb3 hgx2 hw2 g2
        go_wp2_with fail
        refine (HRUN.out _ hbb).mono ?_
        rintro e w4 ⟨rfl, hb4⟩
        have hgx4 := hgx3.below hb4 hgx3.lt
        have hw4 := hw3.trans (hb4.mono hw3.size)
        have hz4 := hw4.size
        have g4 : w4.cell? ⟨w.heap.size, 0, none⟩ = some (.slice A g.length cp) := hgx4.cell 0
        have hgl4 := hgx4.lt
        have hox : Blk (w4.alloc (.cells #[.bool o.isSome, .int .i64 (o.getD 0 : Nat)] 41)) w4.heap.size 41 #[.bool o.isSome, .int .i64 (o.getD 0 : Nat)] := blk_at rfl
        have hw5 := hw4.alloc hz4 (.cells #[.bool o.isSome, .int .i64 (o.getD 0 : Nat)] 41)
        have hOV : ∃ y z, y = o.isSome ∧ z = ((o.getD 0 : Nat) : Int) := ⟨_, _, rfl, rfl⟩
        obtain ⟨vb, vn, hvb, hvn⟩ := hOV
        rw [← hvb, ← hvn] at hox hw5 ⊢
        have HVB := Lib.hid hvb
        have HVN := Lib.hid hvn
        clear hb4 hbb hgx3 hw3 hvb hvn HRUN
        go_wp2_with fail
        refine (HP.out _ hw5).mono ?_
        rintro e w6 ⟨hb6, hq6⟩
        have hw6 := hw5.trans (hb6.mono hw5.size)
        have hox6 := hox.below hb6 hox.lt
        have hz6 := hw6.size
        have hol := hox6.lt
        have o0 : w6.cell? ⟨w4.heap.size, 0, none⟩ = some (.bool vb) := hox6.cell 0
        have o1 : w6.cell? ⟨w4.heap.size, 1, none⟩ = some (.int .i64 vn) := hox6.cell 1
        rcases hq6 with ⟨hne, _⟩ | ⟨_, o', σ', V', cp', l', ⟨m', hpk⟩, _, _, _, rfl, _⟩
        · exact absurd HL0.out hne
        · have hoo := HS.out m' o' σ' hpk
          rw [hoo, outV_eq, ← HVB.out, ← HVN.out]
          generalize σ'.log.length = sl
          clear hb6 hox hw5 hox6 hpk g4 hgx4 hw4 HVB HVN hoo
          go_wp2
          go_ret
          exact ⟨by simp, (by repeat (first | exact Below.refl _ _ | assumption | refine Below.drew ?_ | refine below_drewN ?_ _ | refine Below.alloc ?_ (by first | omega | (simp; omega) | simp) _ | refine Below.setCell ?_ (by first | omega | (simp; omega) | simp) _))⟩
end Go.Proofs.Ytkmcnekjimobhaa
namespace Go.Proofs.Ytkmcnekjimobhaa.codeSafe
open Go.ChangeShapes Go.WideShapes Go.ChangeAt Go.RowKit
open Go.ChangeMaps (open_string shut_string)
set_option linter.unusedVariables false

theorem own : ownKnob Try.prog.godebug = none := by kernel_rfl
theorem laidOut : laidOutB Try.prog = true := by kernel_rfl

set_option maxRecDepth 100000 in
theorem lifted (os : Os) (started : os.Started) (H : Type) (enc : TypeId × Value → H) :
    ReturnsInHanded {} Try.checked os 6 .any (Rows.codeSafeSpec.pre6 enc Try.prog Try.f6 Rows.codeSafeRow.domain false) (Rows.codeSafeSpec.post enc Try.prog Try.f6 false true false false) := by
  refine returnsInHanded_of_change_sized (C := Try.checked) own started (by kernel_rfl) Try.func6
    (ChangeSpec.witness6 (enc := enc) (C := Try.checked) false ⟨#[], #[.agg #[.slice none 0 0], .string ByteArray.empty, .int .i64 0], []⟩ 8 (by kernel_rfl) (by kernel_rfl) (by kernel_rfl) (by kernel_rfl)) ?_
  intro W base args ds gs before hval0 hW hcnd hsz0 _
  have hval : ∀ (j : Nat) t v, Try.f6.params[j]? = some t → args[j]? = some v → Value.okWide Try.prog W .any base t v := hval0
  have hsz : (DataW.weightsEach Try.prog (Try.f6.params.toList ++ Rows.codeSafeSpec.plain.varTypes Try.prog) (ds ++ gs)).all (· ≤ reachBytes) = true := hsz0
  have hW' := hW
  obtain ⟨p, q, hA0, hV, rfl, hfz, hnd⟩ := hW
  have hA : DataW.TrodAll enc Try.prog W 0 (fun _ => true) true Try.f6.params.toList args.toList ds p := hA0
  rw [Try.params6] at hA hval hsz
  obtain ⟨v0, vs0, d0, ds0, p0, q0, hargs, rfl, rfl, h0, r0⟩ := trodAll_cons hA
  obtain ⟨v1, vs1, d1, ds1, p1, q1, rfl, rfl, rfl, h1, r1⟩ := trodAll_cons r0
  obtain ⟨v2, vs2, d2, ds2, p2, q2, rfl, rfl, rfl, h2, r2⟩ := trodAll_cons r1
  obtain ⟨rfl, rfl, rfl⟩ := trodAll_nil r2
  obtain rfl : args = #[v0, v1, v2] := by cases args; simp_all
  obtain ⟨rfl, rfl⟩ := trodVars_none hV
  have k0 := h0
  have lt0 : ∀ x ∈ p0, x.block < W.heap.size := by obtain ⟨m, hm⟩ := k0; exact DataW.trod_lt m _ _ _ hm
  have k1 := h1
  have lt1 : ∀ x ∈ p1, x.block < W.heap.size := by obtain ⟨m, hm⟩ := k1; exact DataW.trod_lt m _ _ _ hm
  have k2 := h2
  have lt2 : ∀ x ∈ p2, x.block < W.heap.size := by obtain ⟨m, hm⟩ := k2; exact DataW.trod_lt m _ _ _ hm
  obtain ⟨g0, A0, cp0, row0, rfl, w0, u0⟩ := open_gram (by obtain ⟨cs, e1, e2⟩ := okWide_struct Try.underlying24 (hval 0 24 v0 rfl rfl); exact ⟨cs, e1, e2⟩) h0
  obtain ⟨s1, rfl, rfl, rfl, n1⟩ := open_string Try.underlying9 (hval 1 9 v1 rfl rfl) h1
  have w1 : s1.size ≤ 140737488351232 := by have := sized_string hsz (j := 1) (t := 9) rfl rfl; simpa [reachBytes] using this
  obtain ⟨a2, rfl, rfl, rfl, i2⟩ := open_int Try.underlying3 (hval 2 3 v2 rfl rfl) h2
  have w2 := I64_of_wf i2
  clear hA0 hval0
  refine (walk_CodeSafe s1 a2 W (by omega) w0 u0).mono fun e W' ⟨he, bel⟩ => ?_
  subst he
  exact ⟨_, rfl, _, _, _, [], _, [], hW', trodAll_mk1 (shut_bool Try.underlying4 _), (trodAll_cons_mk (Below.trod laidOut (by kernel_rfl) (of_decide_eq_true (by kernel_rfl)) k0 bel lt0) (trodAll_cons_mk (Below.trod laidOut (by kernel_rfl) (of_decide_eq_true (by kernel_rfl)) k1 bel lt1) (trodAll_cons_mk (Below.trod laidOut (by kernel_rfl) (of_decide_eq_true (by kernel_rfl)) k2 bel lt2) trodAll_mk0))), rfl, bel.frame _, fun h => by cases h⟩

theorem over : Rows.codeSafeRow.holds Try.pinned (OpenSpec.ofChange Rows.codeSafeSpec) :=
  OpenClaim.holds_of_wide 6 Try.f6 rfl rfl rfl rfl rfl rfl rfl ⟨rfl, rfl, rfl, rfl, rfl⟩ rfl rfl rfl rfl rfl (by kernel_rfl) Try.func6 (by kernel_rfl)
    (of_decide_eq_true (by kernel_rfl)) (by unfold Func.isWrapper; first | (rw [if_pos (by decide +kernel)]; kernel_rfl) | (rw [if_neg (by decide +kernel)]; exact ⟨rfl, rfl⟩))
    (fun os started H enc _ => lifted os started H enc)

theorem proved : Rows.CodeSafeSaid := over
#print axioms proved
end Go.Proofs.Ytkmcnekjimobhaa.codeSafe
