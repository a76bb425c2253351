/- The walks of the laws GramBack and GramAgain. The law GramAgain: for every input it returns true, and each argument reads afterwards as it read before. The frame is written by a program of ours after the guide's own shell; the walk is in the text it imports. Conditions: none but the statement's own. -/
import Derived.Test.YtndhbdbfjkmloaaDoorJReadBack19
import Derived.Test.YtndhbdbfjkmloaaDoorJReadBack20
import Derived.KernelRfl
import Derived.Test.YtndhbdbfjkmloaaDoorRows
import Derived.Test.YtndhbdbfjkmloaaDoorJReadBack2
import Derived.Test.YtndhbdbfjkmloaaDoorTie
import Derived.Test.YtndhbdbfjkmloaaDoorCards
import Derived.LaidMore
import Derived.OpenShut
import Derived.Stop.Joined
import Derived.LaidHandle
import Derived.MakeChecks
import Derived.SevenTiedAt
namespace Go.Proofs.YtndhbdbfjkmloaaDoor
open Go.RowKit Go.Maps

theorem data_arrG (l : List UInt8) : (⟨l.toArray⟩ : ByteArray).data.toList = l := by simp
def gAB : List Rl := [(⟨#[65]⟩, .mk 4 0 0 0 0 ⟨#[66]⟩ []), (⟨#[66]⟩, .mk 3 0 0 0 0 ⟨#[98]⟩ [])]
theorem gAB_read : ReadGR [65, 32, 60, 45, 32, 66, 10, 66, 60, 45, 39, 98, 39] (some gAB) 0 0 :=
  .ok gAB (by decide) (.inr ⟨by decide +kernel, 30, by kernel_rfl⟩) (by decide +kernel)
theorem gBad_read : ReadGR [65, 32, 60, 45, 32, 66, 32, 60, 45, 32, 39, 98, 39] none 5 4 :=
  .syn [66, 32, 60, 45, 32, 39, 98, 39] (by decide) (.inr ⟨by decide +kernel, 30, by kernel_rfl⟩)
set_option maxRecDepth 100000 in
set_option maxHeartbeats 4000000 in
theorem walk_GramBack {g : List Rl} {A : Option Addr} {cp : Nat} {row : Nat → List Value} (w : World) (hg : GrIs w w.heap.size g A cp row) (hw : ∀ r ∈ g, WfE r.2) (hTab : TabAt w) :
    Calls Tryd.prog 7 #[.agg #[.slice A g.length cp]] w fun r w' => r = .returned (.bool true) ∧ Below w.heap.size w w' := by
  have hpos := hTab.pos
  have HPR := Lib.hid (fun W (hW : Below w.heap.size w W) => gprint_any g hw A cp row W ((hg.on hW).more hW.size) (hTab.below hW hpos))
  have HCK := Lib.hid (fun W (hW : Below w.heap.size w W) => gcheck_any ((hg.on hW).more hW.size))
  have HRG := Lib.hid (fun (s : ByteArray) (W : World) => readg_any s W)
  have HSM := Lib.hid (fun (h : List Rl) (A' : Option Addr) (cp' : Nat) (row' : Nat → List Value) (W : World) (hW : Below w.heap.size w W) (hh : GrIs W W.heap.size h A' cp' row') => sameg_any ((hg.on hW).more hW.size) hh)
  have HPB := Lib.hid (fun hc hl => readG_back hw hc hl)
  have hb0 : Below w.heap.size w (w.alloc (.cells #[.slice A g.length cp] 39)) := (by repeat (first | exact Below.refl _ _ | assumption | refine Below.drew ?_ | refine below_drewN ?_ _ | refine Below.alloc ?_ (by first | omega | (simp; omega) | simp) _ | refine Below.setCell ?_ (by first | omega | (simp; omega) | simp) _))
  have hbx : Blk (w.alloc (.cells #[.slice A g.length cp] 39)) w.heap.size 39 #[.slice A g.length cp] := blk_at rfl
  unfold PrGQ prG at HPR
  clear hg hw hTab
  go_enter Tryd.func7, Tryd.ntmps7
  go_wp2_with fail
  refine (HRG.out _ _).mono ?_
  generalize (w.alloc (.cells #[.slice A g.length cp] 39)) = w1 at hb0 hbx ⊢
  rintro r w2 ⟨hb2', o, p, x, hP, A1, cp1, row1, rfl, hE1⟩
  obtain ⟨rfl, rfl, rfl⟩ := hP.uniq gAB_read
  have hb2 := hb0.trans (hb2'.mono hb0.size)
  have hbx2 := hbx.below hb2' hbx.lt
  have hb3 := hb2.alloc hb2.size (.cells #[.slice A1 2 cp1] 39)
  have hbx3 := hbx2.alloc (.cells #[.slice A1 2 cp1] 39)
  have hy3 := Blk.new w2 39 #[.slice A1 2 cp1]
  have hlen : ((some gAB).getD []).length = 2 := rfl
  rw [hlen]
  clear hP hE1 hb2' hb0 hbx hb2 hbx2 hlen
  go_upto_region 2 with fail
  generalize (w2.alloc (.cells #[.slice A1 2 cp1] 39)) = w3 at hb3 hbx3 hy3 ⊢
  generalize w2.heap.size = yb at hy3 ⊢
  have y0 := hy3.cell 0
  have x0 := hbx3.cell 0
  go_wp2_with fail
  refine (HPR.out _ hb3).mono ?_
  rintro r w4 ⟨rfl, hb4'⟩
  have hb4 := hb3.trans (hb4'.mono hb3.size)
  have hbx4 := hbx3.below hb4' hbx3.lt
  clear hb4' hb3 hbx3 hy3 y0 x0
  have x0 := hbx4.cell 0
  by_cases h0 : checkG g = 0
  · rw [if_pos h0, h0]
    have HP2 : Hid (∀ o p x, ReadGR (txG g) o p x → (2000 < (txG g).length ∧ x = 2) ∨ ((txG g).length ≤ 2000 ∧ o = some g ∧ p = 0 ∧ x = 0)) := fun o p x h => by
      rcases Nat.lt_or_ge 2000 (txG g).length with hl | hl
      · obtain ⟨_, _, h3⟩ := h.uniq (.large hl)
        exact .inl ⟨hl, h3⟩
      · exact .inr ⟨hl, h.uniq (HPB.out h0 hl)⟩
    have HLN : Hid ((⟨(txG g).toArray⟩ : ByteArray).size = (txG g).length) := sz_arr _
    have HDA : Hid ((⟨(txG g).toArray⟩ : ByteArray).data.toList = txG g) := data_arrG _
    generalize txG g = T at HP2 HLN HDA ⊢
    clear h0 HPB HPR HCK
    generalize (⟨T.toArray⟩ : ByteArray) = S at HLN HDA ⊢
    go_wp2_with fail
    refine (HRG.out S _).mono ?_
    rintro r w5 ⟨hb5', o, p, x, hP, A2, cp2, row2, rfl, hE2⟩
    rw [HDA.out] at hP
    have HQ2 := Lib.hid (HP2.out o p x hP)
    have hb5 := hb4.trans (hb5'.mono hb4.size)
    have hbx5 := hbx4.below hb5' hbx4.lt
    have hE6 := hE2.allocR (.cells #[.slice A2 (o.getD []).length cp2] 39)
    have hb6 := hb5.alloc hb5.size (.cells #[.slice A2 (o.getD []).length cp2] 39)
    have hbx6 := hbx5.alloc (.cells #[.slice A2 (o.getD []).length cp2] 39)
    have hy6 := Blk.new w5 39 #[.slice A2 (o.getD []).length cp2]
    clear hE2 hb5' hb4 hbx4 hb5 hbx5 x0 hP HP2
    generalize hgo : o.getD [] = go2 at hE6 hb6 hbx6 hy6 ⊢
    have HGO := Lib.hid hgo
    clear hgo
    generalize hgl : go2.length = gl at hb6 hbx6 hy6 hE6 ⊢
    have HGL := Lib.hid hgl
    clear hgl
    go_upto_region 8 with fail
    generalize (w5.alloc (.cells #[.slice A2 gl cp2] 39)) = w6 at hb6 hbx6 hy6 hE6 ⊢
    generalize w5.heap.size = yb2 at hy6 ⊢
    rcases HQ2.out with ⟨hl, rfl⟩ | ⟨hl, rfl, rfl, rfl⟩
    · have hgt : (2000 : Int) < (S.size : Int) := by rw [HLN.out]; omega
      go_wp2
      go_ret
      exact ⟨rfl, hb6⟩
    · have hgt : ¬ (2000 : Int) < (S.size : Int) := by rw [HLN.out]; omega
      have x0 := hbx6.cell 0
      have y0 := hy6.cell 0
      have hsm := HSM.out go2 A2 cp2 row2 w6 hb6 hE6.is
      have hge : g = go2 := HGO.out
      rw [isB_yes hge, HGL.out] at hsm
      have HSX := Lib.hid hsm
      clear hsm hE6 hl HQ2 hge HGO HGL HSM
      go_wp2_with fail
      refine HSX.out.mono ?_
      rintro r w7 ⟨rfl, hb7⟩
      go_wp2
      go_ret
      exact ⟨rfl, hb6.trans (hb7.mono hb6.size)⟩
  · rw [if_neg h0]
    have hne : (checkG g != 0) = true := by rw [bne_iff_ne]; exact h0
    have hck := HCK.out w4 hb4
    have HCX := Lib.hid hck
    clear hck h0 HPB HPR HCK HSM
    generalize checkG g = cx at HCX hne ⊢
    have heq : (cx == cx) = true := beq_self_eq_true cx
    go_wp2_with fail
    refine HCX.out.mono ?_
    rintro r w5 ⟨rfl, hb5⟩
    go_wp2
    go_ret
    exact ⟨rfl, hb4.trans (hb5.mono hb4.size)⟩
set_option maxRecDepth 100000 in
set_option maxHeartbeats 4000000 in
theorem walk_GramAgain (s : ByteArray) (w : World) (hTab : TabAt w) :
    Calls Tryd.prog 8 #[.string s] w fun r w' => r = .returned (.bool true) ∧ Below w.heap.size w w' := by
  have hpos := hTab.pos
  have HTB := Lib.hid hTab
  have HRG := Lib.hid (fun (s : ByteArray) (W : World) => readg_any s W)
  have HSL := Lib.hid (size_list s)
  clear hTab
  go_enter Tryd.func8, Tryd.ntmps8
  go_wp2_with fail
  refine (HRG.out _ _).mono ?_
  rintro r w2 ⟨hb2, o, p, x, hP, A1, cp1, row1, rfl, hE1⟩
  obtain ⟨rfl, rfl, rfl⟩ := hP.uniq gBad_read
  have hlen : ((none : Option (List Rl)).getD []).length = 0 := rfl
  rw [hlen]
  have hb3 := hb2.alloc hb2.size (.cells #[.slice A1 0 cp1] 39)
  clear hP hE1 hb2 hlen
  go_upto_region 2 with fail
  generalize (w2.alloc (.cells #[.slice A1 0 cp1] 39)) = w3 at hb3 ⊢
  go_wp2_with fail
  refine (HRG.out _ _).mono ?_
  rintro r w5 ⟨hb5', o, p, x, hP, A, cp, row, rfl, hE2⟩
  have hb5 := hb3.trans (hb5'.mono hb3.size)
  have hE6 := hE2.allocR (.cells #[.slice A (o.getD []).length cp] 39)
  have hb6 := hb5.alloc hb5.size (.cells #[.slice A (o.getD []).length cp] 39)
  have hx6 := Blk.new w5 39 #[.slice A (o.getD []).length cp]
  clear hE2 hb5' hb5 hb3
  cases o with
  | none =>
    obtain ⟨hx, hp⟩ := readG_none hP
    have hlen : ((none : Option (List Rl)).getD []).length = 0 := rfl
    rw [hlen] at hb6 hx6 ⊢
    have hne : (x != 0) = true := by rw [bne_iff_ne]; exact hx
    rw [HSL.out] at hp
    have hp1 : (0 : Int) ≤ (p : Int) := by omega
    have hp2 : (p : Int) ≤ (s.size : Int) := by omega
    clear hx hP hE6 hlen
    go_upto_region 5 with fail
    generalize (w5.alloc (.cells #[.slice A 0 cp] 39)) = w6 at hb6 hx6 ⊢
    generalize w5.heap.size = xb at hx6 ⊢
    have x0 := hx6.cell 0
    go_wp2
    go_ret
    exact ⟨rfl, hb6⟩
  | some g =>
    obtain ⟨hwf, hck, rfl, rfl⟩ := readG_some hP
    have hlen : ((some g).getD []).length = g.length := rfl
    rw [hlen] at hb6 hx6 hE6 ⊢
    go_upto_region 5 with fail
    have hs5 : w5.heap.size < (w5.alloc (.cells #[.slice A g.length cp] 39)).heap.size := by simp
    have hE7 := hE6.is
    generalize (w5.alloc (.cells #[.slice A g.length cp] 39)) = w6 at hb6 hx6 hE7 hs5 ⊢
    generalize w5.heap.size = xb at hx6 hs5 ⊢
    clear hE6 hlen
    have hE8 : GrIs w6 w6.heap.size g A cp row := hE7
    have hPR := gprint_any g hwf A cp row w6 hE8 (HTB.out.below hb6 hpos)
    unfold PrGQ prG at hPR
    rw [if_pos hck, hck] at hPR
    have HPR := Lib.hid hPR
    have HPB := Lib.hid (fun hl => readG_back hwf hck hl)
    have HSM := Lib.hid (fun (h : List Rl) (A' : Option Addr) (cp' : Nat) (row' : Nat → List Value) (W : World) (hW : Below w6.heap.size w6 W) (hh : GrIs W W.heap.size h A' cp' row') => sameg_any ((hE8.on hW).more hW.size) hh)
    have x0 := hx6.cell 0
    clear hPR hwf hck hE8 hE7 hP
    go_wp2_with fail
    refine HPR.out.mono ?_
    rintro r w7 ⟨rfl, hb7⟩
    have hb70 := hb6.trans (hb7.mono hb6.size)
    have hx7 := hx6.below hb7 hs5
    have HP2 : Hid (∀ o p x, ReadGR (txG g) o p x → (2000 < (txG g).length ∧ x = 2) ∨ ((txG g).length ≤ 2000 ∧ o = some g ∧ p = 0 ∧ x = 0)) := fun o p x h => by
      rcases Nat.lt_or_ge 2000 (txG g).length with hl | hl
      · obtain ⟨_, _, h3⟩ := h.uniq (.large hl)
        exact .inl ⟨hl, h3⟩
      · exact .inr ⟨hl, h.uniq (HPB.out hl)⟩
    have HLN : Hid ((⟨(txG g).toArray⟩ : ByteArray).size = (txG g).length) := sz_arr _
    have HDA : Hid ((⟨(txG g).toArray⟩ : ByteArray).data.toList = txG g) := data_arrG _
    clear HPR HPB hx6 hb6 x0
    generalize txG g = T at HP2 HLN HDA ⊢
    generalize (⟨T.toArray⟩ : ByteArray) = S at HLN HDA ⊢
    go_wp2_with fail
    refine (HRG.out S _).mono ?_
    rintro r w8 ⟨hb8', o, p, x, hP, A2, cp2, row2, rfl, hE8⟩
    rw [HDA.out] at hP
    have HQ2 := Lib.hid (HP2.out o p x hP)
    have hb8 := hb70.trans (hb8'.mono hb70.size)
    have hb68 := hb7.trans (hb8'.mono hb7.size)
    have hx8 := hx7.below hb8' hx7.lt
    have hE9 := hE8.allocR (.cells #[.slice A2 (o.getD []).length cp2] 39)
    have hb9 := hb8.alloc hb8.size (.cells #[.slice A2 (o.getD []).length cp2] 39)
    have hb69 := hb68.alloc hb68.size (.cells #[.slice A2 (o.getD []).length cp2] 39)
    have hx9 := hx8.alloc (.cells #[.slice A2 (o.getD []).length cp2] 39)
    have hy9 := Blk.new w8 39 #[.slice A2 (o.getD []).length cp2]
    clear hE8 hb8' hb7 hb70 hx7 hb8 hb68 hx8 hP HP2
    generalize hgo : o.getD [] = go2 at hE9 hb9 hb69 hx9 hy9 ⊢
    have HGO := Lib.hid hgo
    clear hgo
    generalize hgl : go2.length = gl at hE9 hb9 hb69 hx9 hy9 ⊢
    have HGL := Lib.hid hgl
    clear hgl
    go_upto_region 11 with fail
    generalize (w8.alloc (.cells #[.slice A2 gl cp2] 39)) = w9 at hb9 hb69 hx9 hy9 hE9 ⊢
    generalize w8.heap.size = yb2 at hy9 ⊢
    rcases HQ2.out with ⟨hl, rfl⟩ | ⟨hl, rfl, rfl, rfl⟩
    · have hgt : (2000 : Int) < (S.size : Int) := by rw [HLN.out]; omega
      clear HQ2
      go_wp2
      go_ret
      exact ⟨rfl, hb9⟩
    · have hgt : ¬ (2000 : Int) < (S.size : Int) := by rw [HLN.out]; omega
      have x0 := hx9.cell 0
      have y0 := hy9.cell 0
      have hsm := HSM.out go2 A2 cp2 row2 w9 hb69 hE9.is
      have hge : g = go2 := HGO.out
      rw [isB_yes hge, HGL.out] at hsm
      have HSX := Lib.hid hsm
      clear hsm hE9 hl HQ2 hge HGO HGL HSM
      go_wp2_with fail
      refine HSX.out.mono ?_
      rintro r w10 ⟨rfl, hb10⟩
      go_wp2
      go_ret
      exact ⟨rfl, hb9.trans (hb10.mono hb9.size)⟩
end Go.Proofs.YtndhbdbfjkmloaaDoor
namespace Go.Proofs.YtndhbdbfjkmloaaDoor.gramAgain
open Go.ChangeShapes Go.WideShapes Go.ChangeAt Go.RowKit
open Go.ChangeMaps (open_string shut_string)
set_option linter.unusedVariables false

theorem own : ownKnob Tryd.prog.godebug = none := by kernel_rfl
theorem laidOut : laidOutB Tryd.prog = true := by kernel_rfl

theorem gTab : Tryd.prog.globalNamed "math/bits.deBruijn64tab" = some 0 := by kernel_rfl
theorem tTab : (Tryd.prog.globals[0]?).map (·.type) = some 194 := by kernel_rfl
theorem c8 : Tryd.prog.cellsOf 5 = 1 := by kernel_rfl

/-- The door's own heap meets the condition. -/
theorem door_met (os : Os) (args : Array Value) : laidMetH Tryd.prog [("math/bits.deBruijn64tab", Rows.laid_math_bits_deBruijn64tab)] ((World.doorLaid Tryd.prog 400 os).forCall (fun _ _ => 0) ⟨#[], args, []⟩).memory :=
  laidMetH_of_parts3 (fuel := 8) (laidMet_of_run' 8 (by kernel_rfl) (by kernel_rfl)) (by kernel_rfl) (by kernel_rfl)

theorem tab_lits : ∀ (xs : List (DataW Unit × List MemPlace)), Rows.laid_math_bits_deBruijn64tab = DataW.agg (xs.map (·.1)) → ∀ (j : Nat) (x : DataW Unit × List MemPlace), xs[j]? = some x → x.1 = .lit (.int .u8 (Lib.deBruijn64tab.getD j 0)) := by
  intro xs h j x hx
  have h' : (Lib.deBruijn64tab.map fun n : Nat => DataW.lit (H := Unit) (.int .u8 (n : Int))) = xs.map (·.1) := by
    have : Rows.laid_math_bits_deBruijn64tab = DataW.agg (H := Unit) (Lib.deBruijn64tab.map fun n : Nat => DataW.lit (.int .u8 (n : Int))) := by rfl
    rw [this] at h
    injection h
  have h1 := congrArg (·[j]?) h'
  simp only [List.getElem?_map, hx, Option.map_some] at h1
  obtain ⟨n, hn, he⟩ := Option.map_eq_some_iff.1 h1
  rw [← he, List.getD_eq_getElem?_getD, hn]
  rfl

/-- what the condition gives the walk: the table's cells -/
theorem of_laid {W : World} (h : laidMetH Tryd.prog [("math/bits.deBruijn64tab", Rows.laid_math_bits_deBruijn64tab)] W) : TabAt W := by
  rw [MakeChecks.laidMetH_plain _ _ _ (by kernel_rfl)] at h
  obtain ⟨ps, ⟨g0, t0, cs0, f0, p0, q0, hg0, ht0, hv0, hd0, _, _⟩, _, _⟩ := h
  obtain rfl := Option.some.inj (gTab.symm.trans hg0)
  obtain rfl := Option.some.inj (tTab.symm.trans ht0)
  obtain ⟨xs, m, _, hx, _, hn, hel⟩ := DataW.trod_array Tryd.underlying194 hd0
  injection hx with hx _
  intro j hj
  have hj' : j < 64 := hj
  have h1 := hel j hj'
  rw [List.getElem?_eq_getElem (by omega), c8] at h1
  obtain ⟨k, e1, e2, _⟩ := DataW.trod_int Tryd.underlying5 h1
  have h2 := tab_lits xs hx j _ (List.getElem?_eq_getElem (by omega))
  rw [e2] at h2
  have hk : k = (Lib.deBruijn64tab.getD j 0 : Nat) := by simpa using h2
  have hc := World.var?_cell hg0 hv0 j
  rw [hc]
  rw [Nat.mul_one] at e1
  have h3 : cs0.toList[j]? = some (.int .u8 k) := by
    have := congrArg (·[0]?) e1
    simpa [List.getElem?_take, List.getElem?_drop] using this
  rw [Array.getElem?_toList] at h3
  rw [h3, hk]

set_option maxRecDepth 100000 in
theorem lifted (os : Os) (started : os.Started) (H : Type) (enc : TypeId × Value → H) :
    ReturnsInHanded {} Tryd.checked os 8 .any (fun w args => (Rows.gramAgainSpec.pre enc Tryd.prog Tryd.f8 [] false w args ∧ laidMetH Tryd.prog [("math/bits.deBruijn64tab", Rows.laid_math_bits_deBruijn64tab)] w) ∧ sizedMet enc Tryd.prog Tryd.f8 (OpenSpec.ofChange Rows.gramAgainSpec) false w args)
      (Rows.gramAgainSpec.post enc Tryd.prog Tryd.f8 false true false false) := by
  refine returnsInHanded_of_change_and (C := Tryd.checked) (X := fun w _ => laidMetH Tryd.prog [("math/bits.deBruijn64tab", Rows.laid_math_bits_deBruijn64tab)] w) (fun _ _ _ hh h => h.of_heap hh) own started (by kernel_rfl) Tryd.func8
    (ChangeSpec.witness_shaped (enc := enc) (C := Tryd.checked) (os := os) (X := fun w _ => laidMetH Tryd.prog [("math/bits.deBruijn64tab", Rows.laid_math_bits_deBruijn64tab)] w) false (World.doorLaid Tryd.prog 400 os) #[.string ByteArray.empty] 8 rfl (World.shaped_of_RefB (by kernel_rfl) (by kernel_rfl)) (by kernel_rfl) (by kernel_rfl) (by kernel_rfl) (door_met os _)) ?_
  intro W base args ds gs before hval0 hW hcnd hsz0 hL _
  have hval : ∀ (j : Nat) t v, Tryd.f8.params[j]? = some t → args[j]? = some v → Value.okWide Tryd.prog W .any base t v := hval0
  have hsz : (DataW.weightsEach Tryd.prog (Tryd.f8.params.toList ++ Rows.gramAgainSpec.plain.varTypes Tryd.prog) (ds ++ gs)).all (· ≤ reachBytes) = true := hsz0
  have hW' := hW
  obtain ⟨p, q, hA0, hV, rfl, hfz, hnd⟩ := hW
  have hA : DataW.TrodAll enc Tryd.prog W 0 (fun _ => true) true Tryd.f8.params.toList args.toList ds p := hA0
  rw [Tryd.params8] at hA hval hsz
  obtain ⟨v0, vs0, d0, ds0, p0, q0, hargs, rfl, rfl, h0, r0⟩ := trodAll_cons hA
  obtain ⟨rfl, rfl, rfl⟩ := trodAll_nil r0
  obtain rfl : args = #[v0] := by cases args; simp_all
  obtain ⟨rfl, rfl⟩ := trodVars_none hV
  have k0 := h0
  have lt0 : ∀ x ∈ p0, x.block < W.heap.size := by obtain ⟨m, hm⟩ := k0; exact DataW.trod_lt m _ _ _ hm
  obtain ⟨s0, rfl, rfl, rfl, n0⟩ := open_string Tryd.underlying9 (hval 0 9 v0 rfl rfl) h0
  have w0 : s0.size ≤ 140737488351232 := by have := sized_string hsz (j := 0) (t := 9) rfl rfl; simpa [reachBytes] using this
  have hT := of_laid hL
  clear hA0 hval0
  refine (walk_GramAgain s0 W hT).mono fun e W' ⟨he, bel⟩ => ?_
  subst he
  exact ⟨_, rfl, _, _, _, [], _, [], hW', trodAll_mk1 (shut_bool Tryd.underlying4 _), (trodAll_cons_mk (Below.trod laidOut (by kernel_rfl) (of_decide_eq_true (by kernel_rfl)) k0 bel lt0) trodAll_mk0), rfl, bel.frame _, fun h => by cases h⟩

theorem over : Rows.gramAgainRow.holds Tryd.pinned (OpenSpec.ofChange Rows.gramAgainSpec) :=
  OpenClaim.holds_of_wide 8 Tryd.f8 rfl rfl rfl rfl rfl rfl rfl ⟨rfl, rfl, rfl, rfl, rfl⟩ rfl rfl rfl rfl rfl (by kernel_rfl) Tryd.func8 (by kernel_rfl)
    (of_decide_eq_true (by kernel_rfl)) (by unfold Func.isWrapper; first | (rw [if_pos (by decide +kernel)]; kernel_rfl) | (rw [if_neg (by decide +kernel)]; exact ⟨rfl, rfl⟩))
    (fun os started H enc _ => lifted os started H enc)

/-- THE TIED CARD. -/
theorem proved : Rows.GramAgainCardSaid :=
  Claim7.holds_tied_plain_at .later [] [.data] true (true, "84fe2c0e37c422917b18a07fb6c302e79b75133ca52d2c8cd8afdad499592a61") true
    over (fun _ h => by cases h) (by kernel_rfl) (fun _ h => by cases h) gramAgain_row_tie rfl ⟨rfl, rfl⟩ (by kernel_rfl) rfl
    (fun f fn hf hfn => by
      obtain rfl : f = 8 := Option.some.inj ((show Tryd.prog.funcNamed "chaffcutter/chaffkeep.GramAgain" = some 8 by kernel_rfl).symm.trans hf) |>.symm
      obtain rfl : fn = Tryd.f8 := (Option.some.inj (Tryd.func8.symm.trans hfn)).symm
      exact ⟨by kernel_rfl, fun j t ht => by
        rw [Tryd.params8] at ht
        rcases j with _ | j
        · obtain rfl : t = 9 := by simpa using ht.symm
          exact (show Tryd.prog.wantsStandIn 9 = false by kernel_rfl)
        · simp at ht⟩)
    (by kernel_rfl)
#print axioms proved
end Go.Proofs.YtndhbdbfjkmloaaDoor.gramAgain
