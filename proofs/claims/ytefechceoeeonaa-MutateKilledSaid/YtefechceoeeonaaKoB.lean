/- mutate.Kill. -/
import Derived.Test.YtefechceoeeonaaKoA
import Derived.Test.YtefechceoeeonaaWhA
import Derived.Test.YtefechceoeeonaaGF
namespace Go.Proofs.Ytefechceoeeonaa
open Go.RowKit Go.Maps

/-- a grammar in a row of grammars -/
structure Gm where
  A : Option Addr
  g : List Rl
  cp : Nat
  row : Nat → List Value
def Gm.val (j : Gm) : Value := .slice j.A j.g.length j.cp
structure Gm.In (w : World) (j : Gm) : Prop where
  gr : GrIs w w.heap.size j.g j.A j.cp j.row
  wf : ∀ r ∈ j.g, WfE r.2
theorem Gm.In.grow {w w' : World} {j : Gm} (h : j.In w) (hb : Below w.heap.size w w') : j.In w' := ⟨h.gr.grow hb, h.wf⟩
theorem reads_gm {w : World} {B k : Nat} {A : Option Addr} {js : List Gm} (h : Reads w B 1 A js.length (js.map Gm.val)) (hk : k < js.length) : ∃ ad m, A = some ad ∧ ad.block < B ∧ js[k]? = some m ∧ w.cell? (ad.add k) = some (.slice m.A m.g.length m.cp) := by
  obtain ⟨ad, u, h1, h2, h3, h4⟩ := h.at_ hk
  rw [List.getElem?_map, Option.map_eq_some_iff] at h3
  obtain ⟨m, h5, rfl⟩ := h3
  exact ⟨ad, m, h1, h2, h5, h4⟩
/-- may it be asked? -/
structure KillOk (g : List Rl) (js : List Gm) (T : List ByteArray) : Prop where
  well : (wellG g).2 = 0
  l : js.length ≤ 400
  t : T.length ≤ 40
  wl : ∀ m ∈ js, (wellG m.g).2 = 0
  acc : ∀ s ∈ T, lookG g s = 0
noncomputable def kilL (g : List Rl) (T : List ByteArray) (js : List Gm) : List Value := js.map fun m => .int .i64 (idxP (kilB g m.g) T 0)
/-- what mutate.Kill answers -/
def KillQ (g : List Rl) (js : List Gm) (T : List ByteArray) (w : World) (e : Ending) (w' : World) : Prop := Below w.heap.size w w' ∧
  ((¬ KillOk g js T ∧ ∃ x, x ≠ 0 ∧ e = .returned (.tuple #[.slice none 0 0, .int .i64 x])) ∨
   (KillOk g js T ∧ ∃ V c, e = .returned (.tuple #[.slice V js.length c, .int .i64 0]) ∧ w'.ownsRow w.heap.size 3 1 (.slice V js.length c) js.length (kilL g T js)))
/-- the boxes of what came in -/
structure KlS (w : World) (gv tv : Value) (W : World) : Prop where
  bel : Below w.heap.size w W
  gx : Blk W w.heap.size 24 #[gv]
  tx : Blk W (w.heap.size + 1) 61 #[tv]
section
variable {w W W' : World} {gv tv : Value}
theorem KlS.below (h : KlS w gv tv W) (hb : Below W.heap.size W W') : KlS w gv tv W' := ⟨h.bel.trans (hb.mono h.bel.size), h.gx.below hb h.gx.lt, h.tx.below hb h.tx.lt⟩
theorem KlS.alloc (h : KlS w gv tv W) (o : Obj) : KlS w gv tv (W.alloc o) := h.below ((Below.refl _ W).alloc (Nat.le_refl _) o)
theorem KlS.grown {base : Nat} {e : TypeId} {size n : Nat} {v : Value} {xs : List Value} (h : KlS w gv tv W) (ho : W.ownsRow base e size v n xs) (hg : W.grownBy W' v.ownBlock) (hb : w.heap.size + 2 ≤ base) : KlS w gv tv W' :=
  ⟨below_app h.bel ho hg h.bel.size (by omega), h.gx.grown hg (own_ne ho (by omega)), h.tx.grown hg (own_ne ho (by omega))⟩
theorem KlS.set_ (h : KlS w gv tv W) {k : Nat} (hk : w.heap.size + 2 ≤ k) (u : Value) : KlS w gv tv (W.setCell ⟨k, 0, none⟩ u) :=
  ⟨h.bel.setCell (by show _ ≤ k; omega) _, h.gx.far (by show _ ≠ k; omega) _, h.tx.far (by show _ ≠ k; omega) _⟩
end
theorem bool_info : (Try.prog.info? 4).map (fun i => (i.zero, i.size, i.bytes)) = some (some (.bool false), 1, 1) := by kernel_rfl
theorem int_info' : (Try.prog.info? 3).map (fun i => (i.zero, i.size, i.bytes)) = some (some (.int .i64 0), 1, 8) := by kernel_rfl
theorem kilL_snoc {g : List Rl} {T : List ByteArray} {js : List Gm} {j : Nat} {m : Gm} (h : js[j]? = some m) : kilL g T (js.take j) ++ [.int .i64 (idxP (kilB g m.g) T 0)] = kilL g T (js.take (j + 1)) := by
  rw [take_succ_of h, kilL, kilL, List.map_append]
  rfl
theorem accs_snoc {p : ByteArray → Bool} {T : List ByteArray} {j : Nat} {s : ByteArray} {y : Bool} (h : T[j]? = some s) (hy : p s = y) : ((T.take j).map fun s => Value.bool (p s)) ++ [.bool y] = (T.take (j + 1)).map fun s => Value.bool (p s) := by
  rw [take_succ_of h, List.map_append, ← hy]
  rfl

set_option maxRecDepth 100000 in
set_option maxHeartbeats 8000000 in
theorem kill_any {g : List Rl} {A : Option Addr} {cp : Nat} {row : Nat → List Value} {js : List Gm} {LA : Option Addr} {lc : Nat} {T : List ByteArray} {TA : Option Addr} {tc : Nat} {w : World} (h : GrIs w w.heap.size g A cp row) (hwf : ∀ r ∈ g, WfE r.2)
    (hl : Reads w w.heap.size 1 LA js.length (js.map Gm.val)) (hj : ∀ m ∈ js, m.In w) (hT : Reads w w.heap.size 1 TA T.length (T.map Value.string)) :
    Calls Try.prog 33 #[.agg #[.slice A g.length cp], .slice LA js.length lc, .slice TA T.length tc] w (KillQ g js T w) := by
  obtain ⟨i0, hi0, hz0, hz1, hz2⟩ := info_parts bool_info
  obtain ⟨i1, hi1, hy0, hy1, hy2⟩ := info_parts int_info'
  have hmf : ∀ (fn : Fn) (first cap : Array Value) (w : World), (Instr.makeFunc fn first cap).run Try.prog w = .ok (.func fn first cap) w := fun _ _ _ _ => rfl
  have hwl := fun W (hW : Below w.heap.size w W) => well_any (h.grow hW)
  have hwm := fun W (hW : Below w.heap.size w W) m (hm : m ∈ js) => well_any ((hj m hm).gr.grow hW)
  have hac := fun W (hW : Below w.heap.size w W) (t : ByteArray) => acc_any (h.grow hW) hwf t
  have HQ1 : Hid (∀ x w', x ≠ 0 → ¬ KillOk g js T → Below w.heap.size w w' → KillQ g js T w (.returned (.tuple #[.slice none 0 0, .int .i64 x])) w') := fun x w' h0 h1 hb => ⟨hb, .inl ⟨h1, x, h0, rfl⟩⟩
  have HQ2 : Hid (∀ V c w', KillOk g js T → Below w.heap.size w w' → w'.ownsRow w.heap.size 3 1 (.slice V js.length c) js.length (kilL g T js) → KillQ g js T w (.returned (.tuple #[.slice V js.length c, .int .i64 0])) w') := fun V c w' h0 hb h1 => ⟨hb, .inr ⟨h0, V, c, rfl, h1⟩⟩
  generalize KillQ g js T w = Q at HQ1 HQ2 ⊢
  have HW := Lib.hid hwl
  have HM := Lib.hid hwm
  have HAC := Lib.hid hac
  have HL := Lib.hid hl
  have HJ := Lib.hid hj
  have HTT := Lib.hid hT
  have HWF := Lib.hid hwf
  clear hwl hwm hac hl hj hT hwf h
  unfold WellQ at HW HM
  by_cases hw0 : (wellG g).2 = 0
  rotate_left
  · have HN : Hid (¬ KillOk g js T) := fun hh => hw0 hh.well
    generalize (wellG g).1 = x1 at HW
    generalize (wellG g).2 = y at hw0 HW
    have hyb : (y != 0) = true := by rw [bne_iff_ne]; exact hw0
    have HY0 := Lib.hid hw0
    clear hw0
    go_enter Try.func33, Try.ntmps33
    go_wp2_with fail
    refine (HW.out _ (by repeat (first | exact Below.refl _ _ | assumption | refine Below.drew ?_ | refine below_drewN ?_ _ | refine Below.alloc ?_ (by first | omega | (simp; omega) | simp) _ | refine Below.setCell ?_ (by first | omega | (simp; omega) | simp) _))).mono ?_
    rintro e w1 ⟨rfl, hb1⟩
    have hw1 : Below w.heap.size w w1 := Below.trans (by repeat (first | exact Below.refl _ _ | assumption | refine Below.drew ?_ | refine below_drewN ?_ _ | refine Below.alloc ?_ (by first | omega | (simp; omega) | simp) _ | refine Below.setCell ?_ (by first | omega | (simp; omega) | simp) _)) (hb1.mono (by first | omega | (simp; omega) | simp))
    clear hb1
    go_wp2
    first | exact HQ1.out _ _ HY0.out HN.out hw1 | (go_ret2; exact HQ1.out _ _ HY0.out HN.out hw1)
  have HW0 := Lib.hid hw0
  rw [hw0] at HW
  generalize (wellG g).1 = x1 at HW
  clear hw0
  by_cases h4 : js.length ≤ 400 ∧ T.length ≤ 40
  rotate_left
  · have HN : Hid (¬ KillOk g js T) := fun hh => h4 ⟨hh.l, hh.t⟩
    by_cases h400 : js.length ≤ 400
    · have q1 : ((400 : Int) < (js.length : Int)) = False := by simp; omega
      have q2 : (40 : Int) < (T.length : Int) := by omega
      clear h4 h400
      go_enter Try.func33, Try.ntmps33
      go_wp2_with fail
      refine (HW.out _ (by repeat (first | exact Below.refl _ _ | assumption | refine Below.drew ?_ | refine below_drewN ?_ _ | refine Below.alloc ?_ (by first | omega | (simp; omega) | simp) _ | refine Below.setCell ?_ (by first | omega | (simp; omega) | simp) _))).mono ?_
      rintro e w1 ⟨rfl, hb1⟩
      have hS : KlS w (.slice A g.length cp) (.slice TA T.length tc) w1 := KlS.below ⟨(by repeat (first | exact Below.refl _ _ | assumption | refine Below.drew ?_ | refine below_drewN ?_ _ | refine Below.alloc ?_ (by first | omega | (simp; omega) | simp) _ | refine Below.setCell ?_ (by first | omega | (simp; omega) | simp) _)), (blk_at rfl).alloc _, blk_at (by simp)⟩ hb1
      clear hb1
      have n1 : w1.cell? ⟨w.heap.size + 1, 0, none⟩ = some (.slice TA T.length tc) := hS.tx.cell 0
      go_wp2
      first | exact HQ1.out _ _ (by decide) HN.out hS.bel | (go_ret2; exact HQ1.out _ _ (by decide) HN.out hS.bel)
    · have q1 : (400 : Int) < (js.length : Int) := by omega
      clear h4 h400
      go_enter Try.func33, Try.ntmps33
      go_wp2_with fail
      refine (HW.out _ (by repeat (first | exact Below.refl _ _ | assumption | refine Below.drew ?_ | refine below_drewN ?_ _ | refine Below.alloc ?_ (by first | omega | (simp; omega) | simp) _ | refine Below.setCell ?_ (by first | omega | (simp; omega) | simp) _))).mono ?_
      rintro e w1 ⟨rfl, hb1⟩
      have hw1 : Below w.heap.size w w1 := Below.trans (by repeat (first | exact Below.refl _ _ | assumption | refine Below.drew ?_ | refine below_drewN ?_ _ | refine Below.alloc ?_ (by first | omega | (simp; omega) | simp) _ | refine Below.setCell ?_ (by first | omega | (simp; omega) | simp) _)) (hb1.mono (by first | omega | (simp; omega) | simp))
      clear hb1
      go_wp2
      first | exact HQ1.out _ _ (by decide) HN.out hw1 | (go_ret2; exact HQ1.out _ _ (by decide) HN.out hw1)
  obtain ⟨h400, h40⟩ := h4
  have q1 : ((400 : Int) < (js.length : Int)) = False := by simp; omega
  have q2 : ((40 : Int) < (T.length : Int)) = False := by simp; omega
  go_enter Try.func33, Try.ntmps33
  go_wp2_with fail
  refine (HW.out _ (by repeat (first | exact Below.refl _ _ | assumption | refine Below.drew ?_ | refine below_drewN ?_ _ | refine Below.alloc ?_ (by first | omega | (simp; omega) | simp) _ | refine Below.setCell ?_ (by first | omega | (simp; omega) | simp) _))).mono ?_
  rintro e w1 ⟨rfl, hb1⟩
  have hS : KlS w (.slice A g.length cp) (.slice TA T.length tc) w1 := KlS.below ⟨(by repeat (first | exact Below.refl _ _ | assumption | refine Below.drew ?_ | refine below_drewN ?_ _ | refine Below.alloc ?_ (by first | omega | (simp; omega) | simp) _ | refine Below.setCell ?_ (by first | omega | (simp; omega) | simp) _)), (blk_at rfl).alloc _, blk_at (by simp)⟩ hb1
  clear hb1
  have n1 : w1.cell? ⟨w.heap.size + 1, 0, none⟩ = some (.slice TA T.length tc) := hS.tx.cell 0
  go_wp2
  clear n1
  go_loopw [40] (fun i wr => ∃ j : Nat, j ≤ js.length ∧ i = .int .i64 j ∧ Hid (∀ m ∈ js.take j, (wellG m.g).2 = 0) ∧ KlS w (.slice A g.length cp) (.slice TA T.length tc) wr) (fun i _ => js.length - (intOf i).toNat)
  case atStart => exact ⟨0, by omega, rfl, fun m hm => by simp at hm, hS⟩
  case round =>
    clear hS
    obtain ⟨j, hj, rfl, HR, hS⟩ := hrel
    have hzr := hS.bel.size
    by_cases hjn : j < js.length
    · obtain ⟨ad, m, rfl, hab, hg, e0⟩ := reads_gm (HL.out.below hS.bel) hjn
      have had : ad.block < wr.heap.size := by omega
      have hmm := List.mem_of_getElem? hg
      have hjl : (j : Int) < (js.length : Int) := by omega
      have hcm := HM.out _ (hS.bel.alloc hzr (.cells #[.slice m.A m.g.length m.cp] 24)) m hmm
      have HG := Lib.hid hg
      have HMM := Lib.hid hmm
      clear hg hmm
      obtain ⟨y1, hy1'⟩ : ∃ y, (wellG m.g).1 = y := ⟨_, rfl⟩
      rw [hy1'] at hcm
      by_cases hm0 : (wellG m.g).2 = 0
      · have HR2 : Hid (∀ m ∈ js.take (j + 1), (wellG m.g).2 = 0) := fun m' hm' => by
          rw [take_succ_of HG.out, List.mem_append] at hm'
          rcases hm' with hm' | hm'
          · exact HR.out m' hm'
          · rw [List.mem_singleton.1 hm']; exact hm0
        rw [hm0] at hcm
        have HCM := Lib.hid hcm
        clear hcm hm0 hy1'
        go_wp2_with fail
        refine HCM.out.mono ?_
        rintro e w2 ⟨rfl, hb2⟩
        have hS2 := (hS.alloc (.cells #[.slice m.A m.g.length m.cp] 24)).below hb2
        clear hb2
        go_wp2
        go_roundw
        case rel => exact ⟨j + 1, by omega, by go_num, HR2, hS2⟩
        case measure => simp [intOf]; omega
      · have HN : Hid (¬ KillOk g js T) := fun hh => hm0 (hh.wl m HMM.out)
        generalize (wellG m.g).2 = y at hm0 hcm
        have hyb : (y != 0) = true := by rw [bne_iff_ne]; exact hm0
        have HM0 := Lib.hid hm0
        have HCM := Lib.hid hcm
        clear hcm hm0 hy1'
        go_wp2_with fail
        refine HCM.out.mono ?_
        rintro e w2 ⟨rfl, hb2⟩
        have hS2 := (hS.alloc (.cells #[.slice m.A m.g.length m.cp] 24)).below hb2
        clear hb2
        go_wp2
        first | exact HQ1.out _ _ HM0.out HN.out hS2.bel | (go_ret2; exact HQ1.out _ _ HM0.out HN.out hS2.bel)
    · obtain rfl : j = js.length := by omega
      have HWL : Hid (∀ m ∈ js, (wellG m.g).2 = 0) := fun m hm => HR.out m (by rw [List.take_length]; exact hm)
      clear HR hjn HM hj
      rename World => ws
      obtain ⟨wb, hwb⟩ : ∃ wb, ws.heap.size = wb := ⟨_, rfl⟩
      have hS1 := hS.alloc (.cells #[.slice none 0 0] 92)
      have hbw : Blk (ws.alloc (.cells #[.slice none 0 0] 92)) wb 92 #[.slice none 0 0] := blk_at hwb.symm
      have hwbl : w.heap.size + 2 ≤ wb := by have := hS.tx.lt; omega
      have n1 : (ws.alloc (.cells #[.slice none 0 0] 92)).cell? ⟨w.heap.size + 1, 0, none⟩ = some (.slice TA T.length tc) := hS1.tx.cell 0
      go_upto_region 14 with fail
      generalize ws.alloc (.cells #[.slice none 0 0] 92) = wa at hS1 hbw n1 ⊢
      try rw [hwb]
      clear hS hwb
      go_wp2
      clear n1
      go_loopw [55] (fun i wx => ∃ (j : Nat) (V : Option Addr) (c : Nat), j ≤ T.length ∧ i = .int .i64 j ∧ Hid (∀ s ∈ T.take j, lookG g s = 0) ∧ KlS w (.slice A g.length cp) (.slice TA T.length tc) wx ∧ Blk wx wb 92 #[.slice V j c] ∧ Hid (wx.ownsRow (wb + 1) 4 1 (.slice V j c) j ((T.take j).map fun s => .bool (accG g s)))) (fun i _ => T.length - (intOf i).toNat)
      case atStart => exact ⟨0, none, 0, by omega, rfl, fun m hm => by simp at hm, hS1, hbw, World.ownsRow_nil _ _ _ _⟩
      case round =>
        clear hS1 hbw
        obtain ⟨j, V, c, hj, rfl, HR, hS, hbw, HO⟩ := hrel
        have hzr := hS.bel.size
        by_cases hjn : j < T.length
        · obtain ⟨ad, s, rfl, hab, hg, e0⟩ := reads_str (HTT.out.below hS.bel) hjn
          have had : (ad.add j).block < wr.heap.size := by rw [add_block]; omega
          have hjl : (j : Int) < (T.length : Int) := by omega
          have g0 : wr.cell? ⟨w.heap.size, 0, none⟩ = some (.slice A g.length cp) := hS.gx.cell 0
          have hca := HAC.out _ hS.bel s
          have HG := Lib.hid hg
          clear hg
          obtain ⟨y, hy⟩ : ∃ y, accG g s = y := ⟨_, rfl⟩
          rw [hy] at hca
          have HYY := Lib.hid hy
          clear hy
          by_cases hl0 : lookG g s = 0
          · have HR2 : Hid (∀ s ∈ T.take (j + 1), lookG g s = 0) := fun m' hm' => by
              rw [take_succ_of HG.out, List.mem_append] at hm'
              rcases hm' with hm' | hm'
              · exact HR.out m' hm'
              · rw [List.mem_singleton.1 hm']; exact hl0
            rw [hl0] at hca
            have HCA := Lib.hid hca
            clear hca hl0
            go_wp2_with fail
            refine HCA.out.mono ?_
            rintro e w3 ⟨rfl, hb3⟩
            have hS3 := hS.below hb3
            have hbw3 := hbw.below hb3 hbw.lt
            have HO3 := Lib.hid (own_below HO.out hb3)
            have hz3 := hS3.bel.size
            have hl3 := hbw3.lt
            have n1 : w3.cell? ⟨wb, 0, none⟩ = some (.slice V j c) := hbw3.cell 0
            clear hb3 HO hS hbw e0 g0
            go_wp2_with (at_builtin; refine wpList_append_own _ rfl _ _ _ rfl (wb + 1) 4 i0 _ 1 1 Try.underlying92 hi0 hz0 hz1 hz2 rfl (by decide) _ _ _ rfl (HO3.out.alloc _) ⟨w3.heap.size, 0, none⟩ 1 1 [.bool y] rfl rfl (new_cells w3 4 [.bool y]) (by simp [Value.oneCell']) (by unfold maxLen; omega) (by omega) (by simp; omega) ?_; intro v' w4 hown4 hgr4 _; obtain ⟨V4, c4, rfl⟩ := own_form hown4; have hbw4 := (hbw3.alloc (.cells #[.bool y] 4)).grown hgr4 (own_ne HO3.out (by omega)); have z4 := hbw4.cell 0; have f4 := hbw4.frozen 0; simp at z4)
            have hS4 := ((hS3.alloc (.cells #[.bool y] 4)).grown (HO3.out.alloc _) hgr4 (by omega)).set_ (k := wb) hwbl (.slice V4 (j + 1) c4)
            have hbw5 : Blk (w4.setCell ⟨wb, 0, none⟩ (.slice V4 (j + 1) c4)) wb 92 #[.slice V4 (j + 1) c4] := hbw4.set_ 0 _
            rw [accs_snoc HG.out HYY.out] at hown4
            have HO5 := Lib.hid (own_far hown4 (w' := w4.setCell ⟨wb, 0, none⟩ (.slice V4 (j + 1) c4)) ⟨rfl, rfl, rfl, by simp [World.setCell], fun q _ hne => Below.heap_setCell w4 ⟨wb, 0, none⟩ _ q (by rintro rfl; exact hne rfl)⟩ (by omega : wb < wb + 1))
            go_roundw
            case rel => exact ⟨j + 1, V4, c4, by omega, by go_num, HR2, hS4, hbw5, HO5⟩
            case measure => simp [intOf]; omega
          · have HN : Hid (¬ KillOk g js T) := fun hh => hl0 (hh.acc s (List.mem_of_getElem? HG.out))
            generalize lookG g s = z at hl0 hca
            have hyb : (z != 0) = true := by rw [bne_iff_ne]; exact hl0
            have HZ0 := Lib.hid hl0
            have HCA := Lib.hid hca
            clear hca hl0
            go_wp2_with fail
            refine HCA.out.mono ?_
            rintro e w3 ⟨rfl, hb3⟩
            have hS3 := hS.below hb3
            clear hb3
            go_wp2
            first | exact HQ1.out _ _ HZ0.out HN.out hS3.bel | (go_ret2; exact HQ1.out _ _ HZ0.out HN.out hS3.bel)
        · obtain rfl : j = T.length := by omega
          have HOK : Hid (KillOk g js T) := ⟨HW0.out, h400, h40, HWL.out, fun m hm => HR.out m (by rw [List.take_length]; exact hm)⟩
          have hwl := HO.out
          rw [List.take_length] at hwl
          have hz2 := hS.bel.size
          have hRW := Reads.of_own hwl
          have hb2 := hS.bel
          have hll := hbw.lt
          clear HR hjn HO hwl hj
          rename World => wp
          have hrs' : Below wp.heap.size wp wp := Below.refl _ _
          go_wp2
          go_loopw [19, 75] (fun v i wx => ∃ (j : Nat), j ≤ js.length ∧ i = .int .i64 j ∧ Below wp.heap.size wp wx ∧ Hid (wx.ownsRow wp.heap.size 3 1 v j (kilL g T (js.take j)))) (fun _ i _ => js.length - (intOf i).toNat)
          case atStart => exact ⟨0, by omega, rfl, hrs', World.ownsRow_nil _ _ _ _⟩
          case round =>
            clear hrs'
            obtain ⟨j, hj, rfl, hwr, HO⟩ := hrel
            have hzr := hwr.size
            obtain ⟨V3, c3, rfl⟩ := own_form HO.out
            have hb3 := hb2.trans (hwr.mono hz2)
            by_cases hjn : j < js.length
            · obtain ⟨ad, m, rfl, hab, hg, e0⟩ := reads_gm (HL.out.below hb3) hjn
              have had : ad.block < wr.heap.size := by omega
              have hjl : (j : Int) < (js.length : Int) := by omega
              have hmm := List.mem_of_getElem? hg
              have hb3' := hb3.alloc (by omega) (.cells #[.slice m.A m.g.length m.cp] 24)
              have hwr' := hwr.alloc hzr (.cells #[.slice m.A m.g.length m.cp] 24)
              have hzz : (wr.alloc (.cells #[.slice m.A m.g.length m.cp] 24)).heap.size = wr.heap.size + 1 := by simp
              have hki := kilI_any (g := g) (T := T) ((HJ.out m hmm).gr.grow hb3') (HJ.out m hmm).wf (bm := (blk_at rfl : Blk (wr.alloc (.cells #[.slice m.A m.g.length m.cp] 24)) wr.heap.size 24 #[.slice m.A m.g.length m.cp])) (bw := hbw.below hwr' hbw.lt) (bt := hS.tx.below hwr' hS.tx.lt) (hT := (HTT.out.below hb3').more (by omega)) (hW := (hRW.below hwr').more (by omega)) h40
              unfold KilIQ at hki
              have HG := Lib.hid hg
              obtain ⟨y, hy⟩ : ∃ y, idxP (kilB g m.g) T 0 = y := ⟨_, rfl⟩
              rw [hy] at hki
              have HKI := Lib.hid hki
              have HYY := Lib.hid hy
              have n1 : (wr.alloc (.cells #[.slice m.A m.g.length m.cp] 24)).cell? ⟨w.heap.size + 1, 0, none⟩ = some (.slice TA T.length tc) := (hS.tx.below hwr' hS.tx.lt).cell 0
              have HO3 := Lib.hid (HO.out.alloc (.cells #[.slice m.A m.g.length m.cp] 24))
              clear hg hmm hki hy HO
              go_upto_region 26 with fail
              generalize hwk : wr.alloc (.cells #[.slice m.A m.g.length m.cp] 24) = wk at HKI n1 HO3 hb3' hwr' hzz ⊢
              go_wp2_with fail
              refine HKI.out.mono ?_
              rintro e w4 ⟨rfl, hb4⟩
              have hw4 := hwr'.trans (hb4.mono (by omega))
              have HO4 := Lib.hid (own_below HO3.out hb4)
              have hz4 := hw4.size
              clear hb4 HO3 n1 hwk
              go_wp2_with (at_builtin; refine wpList_append_own _ rfl _ _ _ rfl wp.heap.size 3 i1 _ 1 8 Try.underlying62 hi1 hy0 hy1 hy2 rfl (by decide) _ _ _ rfl (HO4.out.alloc _) ⟨w4.heap.size, 0, none⟩ 1 1 [.int .i64 y] rfl rfl (new_cells w4 3 [.int .i64 y]) (by simp [Value.oneCell']) (by unfold maxLen; omega) (by omega) (by simp; omega) ?_; intro v' w5 hown5 hgr5 _; obtain ⟨V5, c5, rfl⟩ := own_form hown5)
              have hw5 : Below wp.heap.size wp w5 := below_app (hw4.alloc hz4 _) (HO4.out.alloc _) hgr5 (by simp; omega) (by omega)
              rw [← HYY.out, kilL_snoc HG.out] at hown5
              go_roundw
              case rel => exact ⟨j + 1, by omega, by go_num, hw5, hown5⟩
              case measure => simp [intOf]; omega
            · obtain rfl : j = js.length := by omega
              have hw5 := HO.out
              rw [List.take_length] at hw5
              have hown6 : wr.ownsRow w.heap.size 3 1 (.slice V3 js.length c3) js.length (kilL g T js) := ⟨hw5.1, by
                rcases hw5.2 with h1 | ⟨g', cap, cur, h1, h2, h3⟩
                · exact .inl h1
                · exact .inr ⟨g', cap, cur, h1, by omega, h3⟩⟩
              have HQ3 := Lib.hid (HQ2.out V3 c3 wr HOK.out hb3 hown6)
              clear hw5 hown6 HO
              go_wp2
              first | exact HQ3.out | (go_ret2; exact HQ3.out)
end Go.Proofs.Ytefechceoeeonaa
