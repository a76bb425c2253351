/- shrink.Shrink. -/
import Derived.Test.YtlamphneimpdlaaShC
namespace Go.Proofs.Ytlamphneimpdlaa
open Go.RowKit

def boolV : Value → Bool
  | .bool b => b
  | _ => false
/-- what Shrink answers -/
def ShrinkQ (k : Int) (g h : List Rl) (s : ByteArray) (w : World) (e : Ending) (w' : World) : Prop := Below w.heap.size w w' ∧
  ((¬ (shChk k g h = 0 ∧ s.size ≤ 60 ∧ predB k g h s = true) ∧ ∃ x, x ≠ 0 ∧ e = .returned (.tuple #[.string ⟨#[]⟩, .int .i64 x])) ∨
   (shChk k g h = 0 ∧ s.size ≤ 60 ∧ predB k g h s = true ∧ ∃ t : ByteArray, e = .returned (.tuple #[.string t, .int .i64 0]) ∧ t.data.toList.Sublist s.data.toList ∧ predB k g h t = true ∧ ∀ j, j < t.size → predB k g h (cutOut t j (j + 1)) = false))

section
variable {g h : List Rl} {A A' : Option Addr} {cp cp' : Nat} {row row' : Nat → List Value} {w : World}
set_option maxRecDepth 100000 in
set_option maxHeartbeats 8000000 in
theorem shrink_any (hg : GrIs w w.heap.size g A cp row) (hwg : ∀ r ∈ g, WfE r.2) (hh : GrIs w w.heap.size h A' cp' row') (hwh : ∀ r ∈ h, WfE r.2) (k : Int) (s : ByteArray) :
    Calls Try.prog 39 #[.agg #[.int .i64 k, .slice A g.length cp, .slice A' h.length cp'], .string s] w (ShrinkQ k g h s w) := by
  have hho := fun W (hW : Below w.heap.size w W) => holds_any (hg.grow hW) hwg (hh.grow hW) hwh k s
  have hte := fun W => test_any k A g.length cp A' h.length cp' W
  have HHO := Lib.hid hho
  have HTE := Lib.hid hte
  have HG := Lib.hid hg
  have HH := Lib.hid hh
  clear hho hte hg hh
  by_cases hv : (holdsV k g h s).2 = 0
  rotate_left
  · have hno : ¬ (shChk k g h = 0 ∧ s.size ≤ 60 ∧ predB k g h s = true) := fun hx => hv (by unfold holdsV; rw [if_neg (by simpa using hx.1), if_neg (by omega)])
    have HQ : Hid (∀ x w', x ≠ 0 → Below w.heap.size w w' → ShrinkQ k g h s w (.returned (.tuple #[.string ⟨#[]⟩, .int .i64 x])) w') := fun x w' hx hb => ⟨hb, .inl ⟨hno, x, hx, rfl⟩⟩
    clear hno
    generalize holdsV k g h s = r at HHO hv
    obtain ⟨b, x⟩ := r
    simp only at HHO hv
    have hxb : (x != 0) = true := bne_iff_ne.2 hv
    go_enter Try.func39, Try.ntmps39
    go_wp2_with fail
    refine (HHO.out _ (by repeat (first | exact Below.refl _ _ | assumption | refine Below.drew ?_ | refine below_drewN ?_ _ | refine Below.alloc ?_ (by first | omega | (simp; omega) | simp) _ | refine Below.setCell ?_ (by first | omega | (simp; omega) | simp) _))).mono ?_
    rintro e w1 ⟨rfl, hb1⟩
    have hw1 : Below w.heap.size w w1 := Below.trans (by repeat (first | exact Below.refl _ _ | assumption | refine Below.drew ?_ | refine below_drewN ?_ _ | refine Below.alloc ?_ (by first | omega | (simp; omega) | simp) _ | refine Below.setCell ?_ (by first | omega | (simp; omega) | simp) _)) (hb1.mono (by first | omega | (simp; omega) | simp)); have hzw1 := hw1.size; clear hb1
    go_wp2
    go_ret2
    exact HQ.out x _ hv hw1
  have hc0 : shChk k g h = 0 ∧ s.size ≤ 60 ∧ holdsV k g h s = (predB k g h s, 0) := by
    unfold holdsV at hv ⊢
    split at hv
    · rename_i hx; exact absurd hv hx
    · rename_i hx
      split at hv
      · cases hv
      · rename_i h6
        have hx' : shChk k g h = 0 := by simpa using hx
        exact ⟨hx', by omega, by rw [if_neg hx, if_neg h6]⟩
  obtain ⟨hc0, hs6, hve⟩ := hc0
  rw [hve] at HHO
  clear hv hve
  have hkk := (shChk_kind hc0).1
  cases hp0 : predB k g h s
  · rw [hp0] at HHO
    have HQ : Hid (∀ w', Below w.heap.size w w' → ShrinkQ k g h s w (.returned (.tuple #[.string ⟨#[]⟩, .int .i64 11])) w') := fun w' hb => ⟨hb, .inl ⟨fun hx => (by rw [hp0] at hx; exact absurd hx.2.2 (by decide)), 11, by decide, rfl⟩⟩
    go_enter Try.func39, Try.ntmps39
    go_wp2_with fail
    refine (HHO.out _ (by repeat (first | exact Below.refl _ _ | assumption | refine Below.drew ?_ | refine below_drewN ?_ _ | refine Below.alloc ?_ (by first | omega | (simp; omega) | simp) _ | refine Below.setCell ?_ (by first | omega | (simp; omega) | simp) _))).mono ?_
    rintro e w1 ⟨rfl, hb1⟩
    have hw1 : Below w.heap.size w w1 := Below.trans (by repeat (first | exact Below.refl _ _ | assumption | refine Below.drew ?_ | refine below_drewN ?_ _ | refine Below.alloc ?_ (by first | omega | (simp; omega) | simp) _ | refine Below.setCell ?_ (by first | omega | (simp; omega) | simp) _)) (hb1.mono (by first | omega | (simp; omega) | simp)); have hzw1 := hw1.size; clear hb1
    go_wp2
    go_ret2
    exact HQ.out _ hw1
  rw [hp0] at HHO
  have HQ : Hid (∀ t w', Below w.heap.size w w' → t.data.toList.Sublist s.data.toList → predB k g h t = true → (∀ j, j < t.size → predB k g h (cutOut t j (j + 1)) = false) → ShrinkQ k g h s w (.returned (.tuple #[.string t, .int .i64 0])) w') := fun t w' hb h1 h2 h3 => ⟨hb, .inr ⟨hc0, hs6, hp0, t, rfl, h1, h2, h3⟩⟩
  have hcut : ∀ (tb : Nat) (W : World), Below w.heap.size w W → Blk W tb 81 #[.int .i64 k, .slice A g.length cp, .slice A' h.length cp'] → ∀ (n : Nat) (t : ByteArray), 0 < n → n ≤ 60 → t.size ≤ 60 →
      Calls Try.prog 76 #[.string t, .int .i64 n, .func (.func (if k = 1 then 111 else if k = 2 then 112 else 113)) #[] #[.pointer (some ⟨tb, 0, none⟩)]] W (CutQ (predB k g h) n t W) := fun tb W hW hb n t h1 h2 h3 => by
    rcases hkk with rfl | rfl | rfl
    · exact cut1_any (fun X hX u _ => tc1_any (HG.out.grow (hW.trans (hX.mono hW.size))) hwg (hb.below hX hb.lt) u) n h1 h2 t h3
    · exact cut2_any (fun X hX u _ => tc2_any (HG.out.grow (hW.trans (hX.mono hW.size))) hwg (hb.below hX hb.lt) u) n h1 h2 t h3
    · exact cut3_any (fun X hX u _ => tc3_any (HG.out.grow (hW.trans (hX.mono hW.size))) hwg (HH.out.grow (hW.trans (hX.mono hW.size))) hwh (hb.below hX hb.lt) u) n h1 h2 t h3
  have HCUT := Lib.hid hcut
  have HP0 := Lib.hid hp0
  clear hcut hc0 hp0 hwg hwh HG HH
  generalize predB k g h = P at HQ HCUT HP0
  generalize ShrinkQ k g h s w = Q at HQ ⊢
  generalize hfn : (if k = 1 then 111 else if k = 2 then 112 else 113) = fn at HCUT
  go_enter Try.func39, Try.ntmps39
  go_wp2_with fail
  refine (HHO.out _ (by repeat (first | exact Below.refl _ _ | assumption | refine Below.drew ?_ | refine below_drewN ?_ _ | refine Below.alloc ?_ (by first | omega | (simp; omega) | simp) _ | refine Below.setCell ?_ (by first | omega | (simp; omega) | simp) _))).mono ?_
  rintro e w1 ⟨rfl, hb1⟩
  have hbx : Blk w1 w.heap.size 81 _ := (blk_at rfl).below hb1 (by first | omega | (simp; omega) | simp)
  have hw1 : Below w.heap.size w w1 := Below.trans (by repeat (first | exact Below.refl _ _ | assumption | refine Below.drew ?_ | refine below_drewN ?_ _ | refine Below.alloc ?_ (by first | omega | (simp; omega) | simp) _ | refine Below.setCell ?_ (by first | omega | (simp; omega) | simp) _)) (hb1.mono (by first | omega | (simp; omega) | simp)); have hzw1 := hw1.size; clear hb1
  have k0 := hbx.cell 0
  have k1 := hbx.cell 1
  have k2 := hbx.cell 2
  simp at k0 k1 k2
  clear HHO hkk
  go_wp2_with fail
  refine (HTE.out _).mono ?_
  rintro e w2 ⟨tb, v, rfl, hT, hb2⟩
  obtain ⟨hbox, rfl⟩ := hT
  rw [hfn]
  have hw2 : Below w.heap.size w w2 := hw1.trans (hb2.mono hw1.size)
  clear hb2 hbx k0 k1 k2 hw1
  have hz2 := hw2.size
  go_wp2
  go_loopw [1, 9] (fun v1 v9 wr => ∃ (c : ByteArray) (n : Nat), v1 = .string c ∧ v9 = .int .i64 n ∧ n ≤ 60 ∧ Below w2.heap.size w2 wr ∧ Hid (c.data.toList.Sublist s.data.toList ∧ c.size ≤ s.size ∧ P c = true)) (fun _ v9 _ => (intOf v9).toNat)
  case atStart => exact ⟨s, s.size, rfl, rfl, hs6, Below.refl _ _, List.Sublist.refl _, Nat.le_refl _, HP0.out⟩
  case round =>
    obtain ⟨c, n, rfl, rfl, hn, h2r, HI⟩ := hrel
    have hcs := HI.out.2.1
    by_cases hn1 : 1 < n
    · have hn1i : (1 : Int) < (n : Int) := by omega
      have hct := HCUT.out tb wr (hw2.trans (h2r.mono hz2)) (hbox.below h2r hbox.lt) n c (by omega) hn (by omega)
      have HCT := Lib.hid hct
      clear hct
      have hdiv : ((n : Int) + 1).tdiv 2 = (((n + 1) / 2 : Nat) : Int) := by rw [Int.tdiv_eq_ediv_of_nonneg (by omega)]; omega
      go_wp2_with fail
      refine HCT.out.mono ?_
      rintro e w3 ⟨hb3, c3, b3, rfl, h3a, h3b, h3c, h3d⟩
      have h23 := h2r.trans (hb3.mono h2r.size)
      have HI3 : Hid (c3.data.toList.Sublist s.data.toList ∧ c3.size ≤ s.size ∧ P c3 = true) := by
        refine ⟨h3a.trans HI.out.1, ?_, h3b HI.out.2.2⟩
        have := (h3a.trans HI.out.1).length_le
        rwa [size_list, size_list] at this
      clear h3a h3b h3c h3d
      go_wp2
      go_roundw
      case rel => exact ⟨c3, (n + 1) / 2, rfl, by go_num, by omega, h23, HI3.out⟩
      case measure => simp [intOf]; omega
    · have hn1i : ((1 : Int) < (n : Int)) = False := by simp; omega
      have HIc := HI
      rename World => ws
      go_wp2
      go_loopw [1, 10] (fun v1 v10 wr => ∃ (c : ByteArray) (b : Bool), v1 = .string c ∧ v10 = .bool b ∧ Below w2.heap.size w2 wr ∧ Hid (c.data.toList.Sublist s.data.toList ∧ c.size ≤ s.size ∧ P c = true ∧ (b = false → ∀ j, j < c.size → P (cutOut c j (j + 1)) = false))) (fun v1 v10 _ => if boolV v10 = true then lenS v1 + 1 else 0)
      case atStart => exact ⟨c, true, rfl, rfl, h2r, HIc.out.1, HIc.out.2.1, HIc.out.2.2, fun h => by cases h⟩
      case round =>
        obtain ⟨d, b, rfl, rfl, h2q, HJ⟩ := hrel
        have hds := HJ.out.2.1
        cases b
        · obtain ⟨j1, j2, j3, j4⟩ := HJ.out
          have HF := Lib.hid (HQ.out d wr (hw2.trans (h2q.mono hz2)) j1 j3 (j4 rfl))
          clear j1 j2 j3 j4 HJ
          go_wp2
          exact HF.out
        · have hct := HCUT.out tb wr (hw2.trans (h2q.mono hz2)) (hbox.below h2q hbox.lt) 1 d (by omega) (by omega) (by omega)
          have HCT := Lib.hid hct
          clear hct
          go_wp2_with fail
          refine HCT.out.mono ?_
          rintro e w3 ⟨hb3, c3, b3, rfl, h3a, h3b, h3c, h3d⟩
          have h23 := h2q.trans (hb3.mono h2q.size)
          have HJ3 : Hid (c3.data.toList.Sublist s.data.toList ∧ c3.size ≤ s.size ∧ P c3 = true ∧ (b3 = false → ∀ j, j < c3.size → P (cutOut c3 j (j + 1)) = false)) := by
            refine ⟨h3a.trans HJ.out.1, ?_, h3b HJ.out.2.2.1, fun hb => ?_⟩
            · have := (h3a.trans HJ.out.1).length_le
              rwa [size_list, size_list] at this
            · obtain ⟨e1, e2⟩ := h3d hb
              subst e1
              exact e2 rfl
          have HM : Hid (b3 = true → c3.size < d.size) := h3c
          clear h3a h3b h3c h3d
          go_wp2
          go_roundw
          case rel => exact ⟨c3, b3, rfl, rfl, h23, HJ3.out⟩
          case measure =>
            cases b3
            · simp [boolV]
            · have := HM.out rfl
              simp [boolV, lenS]
              omega
end
end Go.Proofs.Ytlamphneimpdlaa
