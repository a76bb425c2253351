/- The law's helpers 'alike' and 'sound'. -/
import Derived.Test.YtapihikbdcplaaaWhB
import Derived.Test.YtapihikbdcplaaaWtB
namespace Go.Proofs.Ytapihikbdcplaaa
open Go.RowKit Go.Maps

theorem with_get0 (g : List Rl) (a b : Ex) : (withG g a b)[g.length]? = some (lefty, a) := by simp [withG]
theorem with_get1 (g : List Rl) (a b : Ex) : (withG g a b)[g.length + 1]? = some (righty, b) := by simp [withG]
/-- what At answers of a rule that is there -/
theorem at_there {g : List Rl} {s : ByteArray} (hl : lookG g s = 0) {j q : Nat} {r : Rl} (hr : g[j]? = some r) (hq : q ≤ s.size) {v : Option Nat} {x : Int} (h : AtR g j s q v x) : x = 0 ∧ ∃ o, Sem g s.data.toList r.2 q o ∧ v = o.map (· - q) := by
  have hj := getElem?_lt hr
  rcases h with ⟨h1, _⟩ | ⟨_, h2, _⟩ | ⟨_, j', q', r', o, h3, h4, _, h5, h6, h7, h8⟩
  · exact absurd hl h1
  · exfalso; omega
  · have e1 : j = j' := by omega
    have e2 : q = q' := by omega
    subst e1 e2
    rw [hr] at h5
    injection h5 with h5
    subst h5
    exact ⟨h8, o, h6, h7⟩

set_option maxRecDepth 100000 in
set_option maxHeartbeats 16000000 in
theorem alike_any {g : List Rl} {A : Option Addr} {cp : Nat} {row : Nat → List Value} {a b : Ex} {ca cb : List Value} {w : World} (s : ByteArray) (h : GrIs w w.heap.size g A cp row) (ha : ExIs w w.heap.size a ca) (hb : ExIs w w.heap.size b cb) (hg : g.length ≤ 1466015503690)
    (hwf : ∀ r ∈ g, WfE r.2) (hwa : WfE a) (hwb : WfE b) (hlaw : WellG (withG g a b) → ∀ p, p ≤ s.data.toList.length → ∀ o o', Sem (withG g a b) s.data.toList a p o → Sem (withG g a b) s.data.toList b p o' → o = o') :
    Calls Try.prog 33 #[.agg #[.slice A g.length cp], .agg ca.toArray, .agg cb.toArray, .string s] w fun e w' => e = .returned (.bool true) ∧ Below w.heap.size w w' := by
  have hso := run_same_out
  obtain ⟨ka, a1, a2, a3, a4, at_, aA, an, acp, hca⟩ := a.parts ha
  obtain ⟨kb, b1, b2, b3, b4, bt_, bA, bn, bcp, hcb⟩ := b.parts hb
  have hwi := fun W (hW : Below w.heap.size w W) => with_any (h.grow hW) (ha.grow hW) (hb.grow hW) hg
  have hwf2 : ∀ r ∈ withG g a b, WfE r.2 := fun r hr => by
    unfold withG at hr
    simp only [List.mem_append, List.mem_cons, List.not_mem_nil, or_false] at hr
    rcases hr with hr | rfl | rfl
    · exact hwf r hr
    · exact hwa
    · exact hwb
  have HWF := Lib.hid hwf2
  have HLAW := Lib.hid hlaw
  subst hca hcb
  have HWI := Lib.hid hwi
  clear hwi hwf2 hlaw hwf hwa hwb h ha hb
  go_enter Try.func33, Try.ntmps33
  go_wp2_with fail
  refine (HWI.out _ (by repeat (first | exact Below.refl _ _ | assumption | refine Below.drew ?_ | refine below_drewN ?_ _ | refine Below.alloc ?_ (by first | omega | (simp; omega) | simp) _ | refine Below.setCell ?_ (by first | omega | (simp; omega) | simp) _))).mono ?_
  rintro e w1 ⟨V, c, row', rfl, hG, hb1⟩
  have hw1 : Below w.heap.size w w1 := ((((Below.refl _ w).alloc (Nat.le_refl _) _).alloc (by simp) _).alloc (by simp; omega) _).trans (hb1.mono (by simp; omega))
  have hz1 := hw1.size
  have hbg : Blk (w1.alloc (.cells #[.slice V (withG g a b).length c] 24)) w1.heap.size 24 #[.slice V (withG g a b).length c] := blk_at rfl
  clear hb1 HWI
  have hlk : Hid (lookG (withG g a b) s = if (wellG (withG g a b)).2 ≠ 0 then (wellG (withG g a b)).2 else if 60 < s.size then 2 else 0) := rfl
  by_cases hwl : (wellG (withG g a b)).2 = 0
  · rw [decide_eq_true hwl]
    by_cases h60 : 60 < s.size
    · have hi : (60 : Int) < (s.size : Int) := by omega
      clear hwl
      go_wp2
      go_ret
      exact ⟨rfl, (by repeat (first | exact Below.refl _ _ | assumption | refine Below.drew ?_ | refine below_drewN ?_ _ | refine Below.alloc ?_ (by first | omega | (simp; omega) | simp) _ | refine Below.setCell ?_ (by first | omega | (simp; omega) | simp) _))⟩
    · have hi : ((60 : Int) < (s.size : Int)) = False := by simp; omega
      have hl0 : lookG (withG g a b) s = 0 := by rw [hlk.out, if_neg (by simp [hwl]), if_neg h60]
      have hW := well_of hwl
      have hsl : s.data.toList.length = s.size := size_list s
      have HL0 := Lib.hid hl0
      have HWL := Lib.hid hW
      have hglen : g.length ≤ 10 := by have := hW.right.ten; simp [withG] at this; omega
      clear hwl hl0 hW hlk
      go_wp2
      go_loopw [35] (fun i wr => ∃ j : Nat, j ≤ s.size + 1 ∧ i = .int .i64 j ∧ Below (w1.heap.size + 1) (w1.alloc (.cells #[.slice V (withG g a b).length c] 24)) wr) (fun i _ => s.size + 1 - (intOf i).toNat)
      case atStart => exact ⟨0, by omega, rfl, by have := Below.refl (w1.alloc (.cells #[.slice V (withG g a b).length c] 24)).heap.size (w1.alloc (.cells #[.slice V (withG g a b).length c] 24)); simpa using this⟩
      case round =>
        obtain ⟨j, hj, rfl, hwr⟩ := hrel
        have hwr1 : Below w1.heap.size w1 wr := ((Below.refl _ w1).alloc (Nat.le_refl _) _).trans (hwr.mono (by omega))
        have hww : Below w.heap.size w wr := hw1.trans (hwr1.mono hz1)
        have hgr := hbg.below hwr (by omega)
        have gr : wr.cell? ⟨w1.heap.size, 0, none⟩ = some (.slice V (withG g a b).length c) := hgr.cell 0
        have hgl := hgr.lt
        have hrz := hwr.size
        simp at hrz
        by_cases hjk : j < s.size + 1
        · have hat0 := fun W (hW : Below w1.heap.size w1 W) => at_any (hG.grow hW) HWF.out g.length s j
          have hat1 := fun W (hW : Below w1.heap.size w1 W) => at_any (hG.grow hW) HWF.out ((g.length + 1 : Nat) : Int) s j
          rw [show ((g.length + 1 : Nat) : Int) = (g.length : Int) + 1 by omega] at hat1
          have H0 := Lib.hid hat0
          have H1 := Lib.hid hat1
          have hj1 : (j : Int) < (s.size : Int) + 1 := by omega
          clear hat0 hat1
          go_wp2_with fail
          refine (H0.out _ hwr1).mono ?_
          rintro e w2 ⟨v, x, hv, rfl, hb2⟩
          obtain ⟨rfl, o, hsem, hv1⟩ := at_there HL0.out (with_get0 g a b) (show j ≤ s.size by omega) hv
          have hgr2 := hgr.below hb2 hgl
          have g2 : w2.cell? ⟨w1.heap.size, 0, none⟩ = some (.slice V (withG g a b).length c) := hgr2.cell 0
          have hw2 : Below w1.heap.size w1 w2 := hwr1.trans (hb2.mono (by omega))
          have hgl2 := hgr2.lt
          have hwr2 := hwr.trans (hb2.mono hrz)
          have hz2 := hwr2.size
          simp at hz2
          rw [outV_eq]
          have HV1 := Lib.hid hv1
          have HS1 := Lib.hid hsem
          clear hb2 hv hv1 hsem
          go_wp2_with fail
          refine (H1.out _ (hw2.alloc (by omega) _)).mono ?_
          rintro e w3 ⟨v', x', hv', rfl, hb3⟩
          rw [show (g.length : Int) + 1 = ((g.length + 1 : Nat) : Int) by omega] at hv'
          obtain ⟨rfl, o', hsem', hv2⟩ := at_there HL0.out (with_get1 g a b) (show j ≤ s.size by omega) hv'
          obtain rfl := HLAW.out HWL.out j (by omega) o o' HS1.out hsem'
          obtain rfl : v = v' := HV1.out.trans hv2.symm
          clear hv2
          have hx : Blk w3 w2.heap.size 60 #[.bool v.isSome, .int .i64 (v.getD 0 : Nat)] := (blk_at rfl).below hb3 (by simp)
          have y0 : w3.cell? ⟨w2.heap.size, 0, none⟩ = some (.bool v.isSome) := hx.cell 0
          have y1 : w3.cell? ⟨w2.heap.size, 1, none⟩ = some (.int .i64 (v.getD 0 : Nat)) := hx.cell 1
          have hxl := hx.lt
          have hwr3 : Below (w1.heap.size + 1) (w1.alloc (.cells #[.slice V (withG g a b).length c] 24)) w3 := (hwr2.alloc (by omega) _).trans (hb3.mono (by simp; omega))
          have hz3 := hwr3.size
          simp at hz3
          rw [outV_eq]
          generalize v.isSome = vb at y0 ⊢
          generalize ((v.getD 0 : Nat) : Int) = vn at y1 ⊢
          clear hb3 hv' hsem' hx hgr2 g2
          go_wp2
          go_roundw
          case rel => exact ⟨j + 1, by omega, by go_num, hwr3.alloc (by omega) _⟩
          case measure => simp [intOf]; omega
        · obtain rfl : j = s.size + 1 := by omega
          go_wp2
          go_ret
          exact ⟨rfl, hww⟩
  · rw [decide_eq_false hwl]
    clear hwl hlk
    go_wp2
    go_ret
    exact ⟨rfl, (by repeat (first | exact Below.refl _ _ | assumption | refine Below.drew ?_ | refine below_drewN ?_ _ | refine Below.alloc ?_ (by first | omega | (simp; omega) | simp) _ | refine Below.setCell ?_ (by first | omega | (simp; omega) | simp) _))⟩
end Go.Proofs.Ytapihikbdcplaaa
