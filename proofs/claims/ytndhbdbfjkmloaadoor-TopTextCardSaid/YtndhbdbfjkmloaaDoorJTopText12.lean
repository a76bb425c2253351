/- The reader's smallest things: a sign by itself, brackets. New readers; what a fault is caught to. read.Parse. What is left by a reading that fails; ReadBlanks, plain. What gram.Find answers. expr.all hands all nodes of an expression to yield, each ahead of its kids: the contract of expr.All as an iterator. -/
import Derived.Test.YtndhbdbfjkmloaaDoorJTopText11
import Derived.Defers
import Derived.Recover
import Derived.Test.YtndhbdbfjkmloaaDoorJTopText2
import Derived.RangeFuncNested
import Derived.RangeFuncBound
import Derived.RangeFuncCalls
import Derived.RangeFuncLeaves
import Derived.Shelf.Abstract
import Derived.Shelf.RegionOpen
import Derived.OwnWalkIn
import Derived.TacticsInMore
import Derived.LoopNIn
import Derived.LoopIn
namespace Go.Proofs.YtndhbdbfjkmloaaDoor
set_option maxHeartbeats 4000000
set_option maxRecDepth 100000
open Go.RowKit
theorem thenGo_eq (l : List UInt8) (n : Nat) (k : List UInt8 -> Option Rs) : thenGo l n k = if (tokL (goL l n)).isBad = true then some (.no (goL l n)) else k (goL l n) := rfl
theorem pri_no {h : Bool} {f : Nat} {l : List UInt8} (hb : begL h l = false) : rdJ h (f + 1) .pri l = some (.no l) := by
  rw [rdJ, if_neg (by rw [hb]; decide)]
theorem pri_nd {h : Bool} {f n : Nat} {l : List UInt8} {e : Ex} (hb : begL h l = true) (ht : tokL l = .nd e n) : rdJ h (f + 1) .pri l = thenGo l n fun l1 => some (.ok e l1) := by
  rw [rdJ, if_pos hb, ht]
theorem pri_sg {h : Bool} {f c n : Nat} {l : List UInt8} (hb : begL h l = true) (ht : tokL l = .sg c n) (hc : c ≠ 40) : rdJ h (f + 1) .pri l = some (.no l) := by
  rw [rdJ, if_pos hb, ht]
  simp only [if_neg hc]
def brkJ (h : Bool) (f : Nat) (l1 : List UInt8) : Option Rs := bindR (rdJ h f .alt l1) fun e l2 => match tokL l2 with
  | .sg c2 n2 => if c2 = 41 then thenGo l2 n2 fun l3 => some (.ok e l3) else some (.no l2)
  | _ => some (.no l2)
theorem pri_br {h : Bool} {f n : Nat} {l : List UInt8} (hb : begL h l = true) (ht : tokL l = .sg 40 n) : rdJ h (f + 1) .pri l = thenGo l n fun l1 => match tokL l1 with
    | .sg c1 n1 => if c1 = 41 then thenGo l1 n1 fun l2 => some (.ok eNil l2) else brkJ h f l1
    | _ => brkJ h f l1 := by
  rw [rdJ, if_pos hb, ht]
  rfl
theorem br_nil {h : Bool} {f n1 : Nat} {l1 : List UInt8} (ht : tokL l1 = .sg 41 n1) : (match tokL l1 with
    | .sg c1 n1 => if c1 = 41 then thenGo l1 n1 fun l2 => some (.ok eNil l2) else brkJ h f l1
    | _ => brkJ h f l1) = thenGo l1 n1 fun l2 => some (.ok eNil l2) := by
  rw [ht]
  rfl
theorem br_alt {h : Bool} {f : Nat} {l1 : List UInt8} (ht : ∀ n, tokL l1 ≠ .sg 41 n) : (match tokL l1 with
    | .sg c1 n1 => if c1 = 41 then thenGo l1 n1 fun l2 => some (.ok eNil l2) else brkJ h f l1
    | _ => brkJ h f l1) = brkJ h f l1 := by
  cases hx : tokL l1 with
  | sg c n =>
    have hc : c ≠ 41 := fun e => by subst e; exact ht n hx
    simp only [if_neg hc]
  | _ => rfl
theorem cl_yes {l2 : List UInt8} {e : Ex} {n2 : Nat} (ht : tokL l2 = .sg 41 n2) : (match tokL l2 with
    | .sg c2 n2 => if c2 = 41 then thenGo l2 n2 fun l3 => some (Rs.ok e l3) else some (.no l2)
    | _ => some (.no l2)) = thenGo l2 n2 fun l3 => some (.ok e l3) := by
  rw [ht]
  rfl
theorem cl_no {l2 : List UInt8} {e : Ex} (ht : ∀ n, tokL l2 ≠ .sg 41 n) : (match tokL l2 with
    | .sg c2 n2 => if c2 = 41 then thenGo l2 n2 fun l3 => some (Rs.ok e l3) else some (.no l2)
    | _ => some (.no l2)) = some (.no l2) := by
  cases hx : tokL l2 with
  | sg c n =>
    have hc : c ≠ 41 := fun e => by subst e; exact ht n hx
    simp only [if_neg hc]
  | _ => rfl
theorem pri_any (s : ByteArray) (hs : s.size <= 100000) (h : Bool) (rb f : Nat) (H : DoesR s h rb f) (l : List UInt8) (R : Rs) (w : World) (hr : RdAt s h rb l w) (hj : rdJ h (f + 1) .pri l = some R) :
    Calls Tryd.prog 136 #[.pointer (some ⟨rb, 0, none⟩)] w (PrsQ s h rb w R) := by
  have HQ : Hid ((∀ x l' cs W', R = .ok x l' -> w.grownBy W' (some rb) -> ExF (fun b => w.heap.size <= b /\ b < W'.heap.size) W'.heap.size W' x cs -> RdAt s h rb l' W' -> PrsQ s h rb w R (.returned (.agg cs.toArray)) W') /\
      (∀ l' W', R = .no l' -> w.grownBy W' (some rb) -> PrsQ s h rb w R (.panicked [{ v := faultV (posL s l'), recovered := false }]) W')) :=
    ⟨fun x l' cs W' e h1 h2 h3 => by subst e; exact ⟨h1, ⟨cs, rfl, h2⟩, h3⟩, fun l' W' e h1 => by subst e; exact ⟨h1, rfl⟩⟩
  generalize PrsQ s h rb w R = Q at HQ ⊢
  have hold := hr.blk.lt
  have hra := hr.below ((Below.refl _ _).alloc (Nat.le_refl _) (.cells #[.int .i64 0, .int .u64 0, .int .u64 0, .int .u64 0, .int .u64 0, .string ⟨#[]⟩, .slice none 0 0] 27))
  have HBX : Hid (Blk (w.alloc (.cells #[.int .i64 0, .int .u64 0, .int .u64 0, .int .u64 0, .int .u64 0, .string ⟨#[]⟩, .slice none 0 0] 27)) w.heap.size 27 #[.int .i64 0, .int .u64 0, .int .u64 0, .int .u64 0, .int .u64 0, .string ⟨#[]⟩, .slice none 0 0]) := blk_at rfl
  have HG0 : Hid (w.grownBy (w.alloc (.cells #[.int .i64 0, .int .u64 0, .int .u64 0, .int .u64 0, .int .u64 0, .string ⟨#[]⟩, .slice none 0 0] 27)) (some rb)) := World.grownBy_alloc _ _ _
  have hz : (w.alloc (.cells #[.int .i64 0, .int .u64 0, .int .u64 0, .int .u64 0, .int .u64 0, .string ⟨#[]⟩, .slice none 0 0] 27)).heap.size = w.heap.size + 1 := by simp
  have HBG := Lib.hid (begins_any s hs h rb l _ hra)
  by_cases hb : begL h l = true
  · rw [hb] at HBG
    cases ht : tokL l with
    | fin => unfold begL at hb; rw [ht] at hb; cases hb
    | bad => unfold begL at hb; rw [ht] at hb; cases hb
    | nd e n =>
      rw [pri_nd hb ht] at hj
      obtain ⟨_, _, k, a, b, c, d, t, rfl, hk1, _, _, _, _, htl⟩ := tok_nd ht
      have hkn : tkn (tokL l) = n := by rw [ht]; rfl
      have hll := hr.pos.2.2
      have hbk : Blk w rb 119 #[.string s, .bool h, .int .i64 (posL s l : Int), .int .i64 ((posL s l + n : Nat) : Int), .bool true, .int .i64 k, .int .u64 a, .int .u64 b, .int .u64 c, .int .u64 d, .string t, .slice none 0 0, .int .u8 0] := by
        have := hr.blk
        rw [ht] at this
        exact this
      have hleaf := fun (S : Nat -> Prop) (hi : Nat) (W : World) => ExF.leaf S hi W k a b c d t (by unfold maxLen; omega)
      have HLF := Lib.hid hleaf
      unfold thenGo at hj
      have HGO := Lib.hid (fun (W : World) (hW : RdAt s h rb l W) => go_any s hs h rb l W hW)
      unfold GoQ at HGO
      rw [hkn] at HGO
      have HRA := Lib.hid hra
      clear hkn ht hleaf htl hk1 hra hr H hb hll
      generalize goL l n = lg at HGO hj
      have HJ := Lib.hid hj
      clear hj
      go_enter Tryd.func136, Tryd.ntmps136
      go_wp2_with fail
      refine HBG.out.mono ?_
      have hbk1 := hbk.alloc (.cells #[.int .i64 0, .int .u64 0, .int .u64 0, .int .u64 0, .int .u64 0, .string ⟨#[]⟩, .slice none 0 0] 27)
      generalize (w.alloc (.cells #[.int .i64 0, .int .u64 0, .int .u64 0, .int .u64 0, .int .u64 0, .string ⟨#[]⟩, .slice none 0 0] 27)) = wa at HBG HBX HG0 hz hbk1 HRA ⊢
      rintro e w1 ⟨rfl, hb1⟩
      have hb2 := hbk1.below hb1 hbk1.lt
      have z4 := hb2.cell 4
      have z5 := hb2.cell 5
      have z6 := hb2.cell 6
      have z7 := hb2.cell 7
      have z8 := hb2.cell 8
      have z9 := hb2.cell 9
      have z10 := hb2.cell 10
      have z11 := hb2.cell 11
      have z12 := hb2.cell 12
      have hr1 := HRA.out.below hb1
      have hbx1 := HBX.out.below hb1 (by omega)
      have hg1 := grownBel HG0.out hb1
      have hs1 := hb1.size
      rw [hz] at hs1
      have hr2 := hr1.below ((Below.refl _ _).alloc (Nat.le_refl _) (.cells #[.int .i64 k, .int .u64 a, .int .u64 b, .int .u64 c, .int .u64 d, .string t, .slice none 0 0] 27))
      have hbx2 := hbx1.alloc (.cells #[.int .i64 k, .int .u64 a, .int .u64 b, .int .u64 c, .int .u64 d, .string t, .slice none 0 0] 27)
      have hg2 := hg1.trans (World.grownBy_alloc w1 (.cells #[.int .i64 k, .int .u64 a, .int .u64 b, .int .u64 c, .int .u64 d, .string t, .slice none 0 0] 27) (some rb))
      have hx2 := Blk.new w1 27 #[.int .i64 k, .int .u64 a, .int .u64 b, .int .u64 c, .int .u64 d, .string t, .slice none 0 0]
      clear hbk hbk1 hb1 HBG HBX HG0 hb2 HRA hr1 hbx1 hg1
      go_upto_region 5 with fail
      generalize (w1.alloc (.cells #[.int .i64 k, .int .u64 a, .int .u64 b, .int .u64 c, .int .u64 d, .string t, .slice none 0 0] 27)) = w2 at hr2 hbx2 hg2 hx2 ⊢
      generalize w1.heap.size = xb at hx2 hs1 ⊢
      clear z4 z5 z6 z7 z8 z9 z10 z11 z12
      go_wp2_with fail
      refine (HGO.out w2 hr2).mono ?_
      rintro e w3 ⟨hg3, ⟨hbad, rfl⟩ | ⟨hgood, rfl, hr3⟩⟩
      · skip
        have hRe : Rs.no lg = R := by
          have := HJ.out
          rw [if_pos hbad] at this
          exact Option.some.inj this
        have HRE := Lib.hid hRe
        clear hRe
        go_wp2
        exact ⟨rfl, HQ.out.2 _ _ HRE.out.symm (hg2.trans hg3)⟩
      · have hj := HJ.out
        rw [if_neg (by rw [hgood]; decide)] at hj
        have HRE : Hid (R = .ok (.mk k a b c d t []) lg) := (Option.some.inj hj).symm
        have hx3 := hx2.grown hg3 (fun e => by injection e with e; omega)
        have hbx3 := hbx2.grown hg3 (fun e => by injection e with e; omega)
        have hg4 := hg2.trans hg3
        have x0 := hx3.cell 0
        have x1 := hx3.cell 1
        have x2 := hx3.cell 2
        have x3 := hx3.cell 3
        have x4 := hx3.cell 4
        have x5 := hx3.cell 5
        have x6 := hx3.cell 6
        have HLX := Lib.hid (HLF.out (fun b => w.heap.size + 1 <= b /\ b < w3.heap.size) w3.heap.size w3)
        have HG4 := Lib.hid hg4
        have HR3 := Lib.hid hr3
        clear hj HJ hx2 hx3 hbx2 hg2 hg3 hg4 hr2 hr3 HLF
        have hob := (hbx3).lt
        obtain ⟨yz0, yz1, yz2, yz3, yz4, yz5, yz6, yf0, yf1, yf2, yf3, yf4, yf5, yf6, ye0, ye1, ye2, ye3, ye4, ye5, ye6⟩ := st7 hbx3 (.int .i64 k) (.int .u64 a) (.int .u64 b) (.int .u64 c) (.int .u64 d) (.string t) (.slice none 0 0)
        go_wp2
        exact bodyPost_ret (v := .agg #[.int .i64 k, .int .u64 a, .int .u64 b, .int .u64 c, .int .u64 d, .string t, .slice none 0 0]) (by simp [results, Tryd.results136, go_sem, ye0, ye1, ye2, ye3, ye4, ye5, ye6]) rfl (HQ.out.1 _ _ [.int .i64 k, .int .u64 a, .int .u64 b, .int .u64 c, .int .u64 d, .string t, .slice none 0 0] _ HRE.out (grown_set7 HG4.out (Nat.le_refl _) _ _ _ _ _ _ _) ((HLX.out).res7 (by omega) (by omega) _ _ _ _ _ _ _) ((HR3.out).set7 (by omega) _ _ _ _ _ _ _))
    | sg c n =>
      have hbk4 : w.cell? ⟨rb, 4, none⟩ = some (.bool false) := (hr.blk.cell 4).trans (by rw [ht]; rfl)
      have hbk12 : w.cell? ⟨rb, 12, none⟩ = some (.int .u8 (c : Int)) := (hr.blk.cell 12).trans (by rw [ht]; rfl)
      have hbk2 : w.cell? ⟨rb, 2, none⟩ = some (.int .i64 (posL s l : Int)) := (hr.blk.cell 2)
      by_cases hc : c = 40
      · subst hc
        rw [pri_br hb ht] at hj
        have hkn : tkn (tokL l) = n := by rw [ht]; rfl
        rw [thenGo_eq] at hj
        have HGO := Lib.hid (go_any s hs h rb l)
        have HG1 := Lib.hid (fun (x : List UInt8) (W : World) (hW : RdAt s h rb x W) => go_any s hs h rb x W hW)
        unfold GoQ at HGO
        rw [hkn] at HGO
        have HRA := Lib.hid hra
        have HAL := Lib.hid H.alt
        clear hkn ht hra hr H hb hbk2
        generalize goL l n = lg at HGO hj
        have HJ := Lib.hid hj
        clear hj
        go_enter Tryd.func136, Tryd.ntmps136
        go_wp2_with fail
        refine HBG.out.mono ?_
        have k4 : (w.alloc (.cells #[.int .i64 0, .int .u64 0, .int .u64 0, .int .u64 0, .int .u64 0, .string ⟨#[]⟩, .slice none 0 0] 27)).cell? ⟨rb, 4, none⟩ = some (.bool false) := (World.cell?_alloc_lt w _ ⟨rb, 4, none⟩ hold).trans hbk4
        have k12 : (w.alloc (.cells #[.int .i64 0, .int .u64 0, .int .u64 0, .int .u64 0, .int .u64 0, .string ⟨#[]⟩, .slice none 0 0] 27)).cell? ⟨rb, 12, none⟩ = some (.int .u8 40) := (World.cell?_alloc_lt w _ ⟨rb, 12, none⟩ hold).trans hbk12
        generalize (w.alloc (.cells #[.int .i64 0, .int .u64 0, .int .u64 0, .int .u64 0, .int .u64 0, .string ⟨#[]⟩, .slice none 0 0] 27)) = wa at HBG HBX HG0 hz HRA k4 k12 ⊢
        rintro e w1 ⟨rfl, hb1⟩
        have z4 := (hb1.cell (p := ⟨rb, 4, none⟩) HRA.out.blk.lt).trans k4
        have z12 := (hb1.cell (p := ⟨rb, 12, none⟩) HRA.out.blk.lt).trans k12
        have hr1 := HRA.out.below hb1
        have hbx1 := HBX.out.below hb1 (by omega)
        have hg1 := grownBel HG0.out hb1
        have hs1 := hb1.size
        rw [hz] at hs1
        clear hb1 HBG HBX HG0 HRA k4 k12 hbk4 hbk12
        go_wp2_with fail
        refine (HGO.out w1 hr1).mono ?_
        rintro e w2 ⟨hg2, ⟨hbad, rfl⟩ | ⟨hgood, rfl, hr2⟩⟩
        · skip
          have hRe : Rs.no lg = R := by
            have := HJ.out
            rw [if_pos hbad] at this
            exact Option.some.inj this
          have HRE := Lib.hid hRe
          clear hRe
          go_wp2
          exact ⟨rfl, HQ.out.2 _ _ HRE.out.symm (hg1.trans hg2)⟩
        · have hj := HJ.out
          rw [if_neg (by rw [hgood]; decide)] at hj
          have hbx2 := hbx1.grown hg2 (fun e => by injection e with e; omega)
          have HG2 := Lib.hid (hg1.trans hg2)
          have hs2 := Nat.le_trans hs1 hg2.size
          clear hr1 hbx1 hg1 hg2 HGO HJ z4 z12 hs1
          by_cases h41 : ∃ n1, tokL lg = .sg 41 n1
          · obtain ⟨n1, ht1⟩ := h41
            rw [br_nil ht1] at hj
            have hkn : tkn (tokL lg) = n1 := by rw [ht1]; rfl
            have y12 : w2.cell? ⟨rb, 12, none⟩ = some (.int .u8 41) := (hr2.blk.cell 12).trans (by rw [rdC_get, ht1]; rfl)
            have HGO := Lib.hid (HG1.out lg w2 hr2)
            unfold GoQ at HGO
            rw [hkn] at HGO
            unfold thenGo at hj
            clear hkn ht1 HG1
            generalize goL lg n1 = lh at HGO hj
            have HJ := Lib.hid hj
            clear hj
            go_wp2_with fail
            refine HGO.out.mono ?_
            rintro e w3 ⟨hg3, ⟨hbad, rfl⟩ | ⟨hgood3, rfl, hr3⟩⟩
            · skip
              have hRe : Rs.no lh = R := by
                have := HJ.out
                rw [if_pos hbad] at this
                exact Option.some.inj this
              have HRE := Lib.hid hRe
              clear hRe
              go_wp2
              exact ⟨rfl, HQ.out.2 _ _ HRE.out.symm (HG2.out.trans hg3)⟩
            · have hj := HJ.out
              rw [if_neg (by rw [hgood3]; decide)] at hj
              have HRE : Hid (R = .ok eNil lh) := (Option.some.inj hj).symm
              have hbx3 := hbx2.grown hg3 (fun e => by injection e with e; omega)
              have HLX : Hid (ExF (fun b => w.heap.size + 1 <= b /\ b < w3.heap.size) w3.heap.size w3 eNil [.int .i64 1, .int .u64 0, .int .u64 0, .int .u64 0, .int .u64 0, .string ⟨#[]⟩, .slice none 0 0]) := ExF.leaf _ _ _ 1 0 0 0 0 ⟨#[]⟩ (by decide)
              have HG3 := Lib.hid (HG2.out.trans hg3)
              have HR3 := Lib.hid hr3
              clear hj HJ HGO hg3 hr2 hr3 hbx2 y12
              have hob := (hbx3).lt
              obtain ⟨yz0, yz1, yz2, yz3, yz4, yz5, yz6, yf0, yf1, yf2, yf3, yf4, yf5, yf6, ye0, ye1, ye2, ye3, ye4, ye5, ye6⟩ := st7 hbx3 (.int .i64 1) (.int .u64 0) (.int .u64 0) (.int .u64 0) (.int .u64 0) (.string ⟨#[]⟩) (.slice none 0 0)
              go_wp2
              exact bodyPost_ret (v := .agg #[.int .i64 1, .int .u64 0, .int .u64 0, .int .u64 0, .int .u64 0, .string ⟨#[]⟩, .slice none 0 0]) (by simp [results, Tryd.results136, go_sem, ye0, ye1, ye2, ye3, ye4, ye5, ye6]) rfl (HQ.out.1 _ _ [.int .i64 1, .int .u64 0, .int .u64 0, .int .u64 0, .int .u64 0, .string ⟨#[]⟩, .slice none 0 0] _ HRE.out (grown_set7 HG3.out (Nat.le_refl _) _ _ _ _ _ _ _) ((HLX.out).res7 (by omega) (by omega) _ _ _ _ _ _ _) ((HR3.out).set7 (by omega) _ _ _ _ _ _ _))
          · rw [br_alt (fun n e => h41 ⟨n, e⟩)] at hj
            unfold brkJ at hj
            have hs41 := sg_ne (l := lg) (c := 41) (fun n e => h41 ⟨n, e⟩) (by decide)
            have y12 := hr2.blk.cell 12
            rw [rdC_get] at y12
            have e41 : (((tkV (tokL lg)).sg : Int) == 41) = false := by rw [beq_eq_false_iff_ne]; omega
            generalize (tkV (tokL lg)).sg = sgv at y12 e41
            clear hs41 h41
            cases hx : rdJ h f .alt lg with
            | none => rw [hx] at hj; cases hj
            | some R1 =>
              rw [hx] at hj
              have HP := Lib.hid (HAL.out lg R1 w2 hr2 hx)
              have HJ := Lib.hid hj
              clear hx hj HAL hr2
              go_wp2_with fail
              refine HP.out.mono ?_
              rintro e w3 ⟨hg3, hR1⟩
              cases R1 with
              | no l1 =>
                simp only at hR1
                subst hR1
                have hRe : Rs.no l1 = R := Option.some.inj HJ.out
                have HRE := Lib.hid hRe
                clear hRe
                go_wp2
                exact ⟨rfl, HQ.out.2 _ _ HRE.out.symm (HG2.out.trans hg3)⟩
              | ok x l2 =>
                obtain ⟨⟨cs, rfl, hE⟩, hr3⟩ := hR1
                obtain ⟨k, a, b, c, d, t, A, nn, cp, rfl⟩ := Ex.parts _ hE.is
                have hbx3 := hbx2.grown hg3 (fun e => by injection e with e; omega)
                have hs3 := Nat.le_trans hs2 hg3.size
                have hr4 := hr3.below ((Below.refl _ _).alloc (Nat.le_refl _) (.cells #[.int .i64 k, .int .u64 a, .int .u64 b, .int .u64 c, .int .u64 d, .string t, .slice A nn cp] 27))
                have hbx4 := hbx3.alloc (.cells #[.int .i64 k, .int .u64 a, .int .u64 b, .int .u64 c, .int .u64 d, .string t, .slice A nn cp] 27)
                have hg4 := (HG2.out.trans hg3).trans (World.grownBy_alloc w3 (.cells #[.int .i64 k, .int .u64 a, .int .u64 b, .int .u64 c, .int .u64 d, .string t, .slice A nn cp] 27) (some rb))
                have hx4 := Blk.new w3 27 #[.int .i64 k, .int .u64 a, .int .u64 b, .int .u64 c, .int .u64 d, .string t, .slice A nn cp]
                have hE4 := (hE.mono (S' := fun b => w.heap.size + 1 <= b /\ b < w3.heap.size) (fun b hb => ⟨by have := hb.1; omega, hb.2⟩) (Nat.le_refl _)).allocR (.cells #[.int .i64 k, .int .u64 a, .int .u64 b, .int .u64 c, .int .u64 d, .string t, .slice A nn cp] 27)
                clear hE hr3 hbx2 hbx3 hg3 HP y12 e41 HG2
                go_upto_region 12 with fail
                generalize (w3.alloc (.cells #[.int .i64 k, .int .u64 a, .int .u64 b, .int .u64 c, .int .u64 d, .string t, .slice A nn cp] 27)) = w4 at hr4 hbx4 hg4 hx4 hE4 ⊢
                generalize w3.heap.size = xb at hx4 hs3 ⊢
                by_cases h41 : ∃ n1, tokL l2 = .sg 41 n1
                · obtain ⟨n1, ht1⟩ := h41
                  have hj := HJ.out
                  simp only [bindR] at hj
                  rw [cl_yes ht1] at hj
                  have hkn : tkn (tokL l2) = n1 := by rw [ht1]; rfl
                  have y12 : w4.cell? ⟨rb, 12, none⟩ = some (.int .u8 41) := (hr4.blk.cell 12).trans (by rw [rdC_get, ht1]; rfl)
                  have HGO := Lib.hid (HG1.out l2 w4 hr4)
                  unfold GoQ at HGO
                  rw [hkn] at HGO
                  unfold thenGo at hj
                  clear hkn ht1 HG1
                  generalize goL l2 n1 = lh at HGO hj
                  replace HJ := Lib.hid hj
                  clear hj
                  go_wp2_with fail
                  refine HGO.out.mono ?_
                  rintro e w5 ⟨hg5, ⟨hbad, rfl⟩ | ⟨hgood5, rfl, hr5⟩⟩
                  · skip
                    have hRe : Rs.no lh = R := by
                      have := HJ.out
                      rw [if_pos hbad] at this
                      exact Option.some.inj this
                    have HRE := Lib.hid hRe
                    clear hRe
                    go_wp2
                    exact ⟨rfl, HQ.out.2 _ _ HRE.out.symm (hg4.trans hg5)⟩
                  · have hj := HJ.out
                    rw [if_neg (by rw [hgood5]; decide)] at hj
                    have HRE : Hid (R = .ok x lh) := (Option.some.inj hj).symm
                    have hbx5 := hbx4.grown hg5 (fun e => by injection e with e; omega)
                    have hx5 := hx4.grown hg5 (fun e => by injection e with e; omega)
                    have x0 := hx5.cell 0
                    have x1 := hx5.cell 1
                    have x2 := hx5.cell 2
                    have x3 := hx5.cell 3
                    have x4 := hx5.cell 4
                    have x5 := hx5.cell 5
                    have x6 := hx5.cell 6
                    have HLX := Lib.hid (hE4.grownR (by omega) hg5)
                    have HG5 := Lib.hid (hg4.trans hg5)
                    have HR5 := Lib.hid hr5
                    clear hj HJ HGO hg4 hg5 hr4 hr5 hbx4 hx4 hx5 y12 hE4
                    have hob := (hbx5).lt
                    obtain ⟨yz0, yz1, yz2, yz3, yz4, yz5, yz6, yf0, yf1, yf2, yf3, yf4, yf5, yf6, ye0, ye1, ye2, ye3, ye4, ye5, ye6⟩ := st7 hbx5 (.int .i64 k) (.int .u64 a) (.int .u64 b) (.int .u64 c) (.int .u64 d) (.string t) (.slice A nn cp)
                    go_wp2
                    exact bodyPost_ret (v := .agg #[.int .i64 k, .int .u64 a, .int .u64 b, .int .u64 c, .int .u64 d, .string t, .slice A nn cp]) (by simp [results, Tryd.results136, go_sem, ye0, ye1, ye2, ye3, ye4, ye5, ye6]) rfl (HQ.out.1 _ _ [.int .i64 k, .int .u64 a, .int .u64 b, .int .u64 c, .int .u64 d, .string t, .slice A nn cp] _ HRE.out (grown_set7 HG5.out (Nat.le_refl _) _ _ _ _ _ _ _) ((HLX.out).res7 (by omega) (by omega) _ _ _ _ _ _ _) ((HR5.out).set7 (by omega) _ _ _ _ _ _ _))
                · have hj := HJ.out
                  simp only [bindR] at hj
                  rw [cl_no (fun n e => h41 ⟨n, e⟩)] at hj
                  have HRE : Hid (R = .no l2) := (Option.some.inj hj).symm
                  have hs41 := sg_ne (l := l2) (c := 41) (fun n e => h41 ⟨n, e⟩) (by decide)
                  have y12 := hr4.blk.cell 12
                  have y2 := hr4.blk.cell 2
                  rw [rdC_get] at y12 y2
                  have e41 : (((tkV (tokL l2)).sg : Int) != 41) = true := by rw [bne_iff_ne]; omega
                  generalize (tkV (tokL l2)).sg = sgv at y12 e41
                  have HG4 := Lib.hid hg4
                  clear hs41 h41 hj HJ hr4 hbx4 hx4 hE4 hg4
                  go_wp2_with fail
                  refine (bad_any (posL s l2) _).mono ?_
                  rintro e w9 ⟨rfl, hw9⟩
                  subst w9
                  go_wp2
                  exact ⟨rfl, HQ.out.2 _ _ HRE.out HG4.out⟩
      · rw [pri_sg hb ht hc] at hj
        have HRE : Hid (R = .no l) := (Option.some.inj hj).symm
        have hcc : c = 38 \/ c = 33 := by
          have : c = 40 \/ c = 38 \/ c = 33 := by
            unfold begL at hb
            rw [ht] at hb
            exact of_decide_eq_true hb
          exact this.resolve_left hc
        clear hj ht hc hb hra hr H
        rcases hcc with rfl | rfl
        all_goals
          go_enter Tryd.func136, Tryd.ntmps136
          go_wp2_with fail
          refine HBG.out.mono ?_
          have k2 := (World.cell?_alloc_lt w (.cells #[.int .i64 0, .int .u64 0, .int .u64 0, .int .u64 0, .int .u64 0, .string ⟨#[]⟩, .slice none 0 0] 27) ⟨rb, 2, none⟩ hold).trans hbk2
          have k12 := (World.cell?_alloc_lt w (.cells #[.int .i64 0, .int .u64 0, .int .u64 0, .int .u64 0, .int .u64 0, .string ⟨#[]⟩, .slice none 0 0] 27) ⟨rb, 12, none⟩ hold).trans hbk12
          generalize (w.alloc (.cells #[.int .i64 0, .int .u64 0, .int .u64 0, .int .u64 0, .int .u64 0, .string ⟨#[]⟩, .slice none 0 0] 27)) = wa at HBG HBX HG0 hz k2 k12 ⊢
          rintro e w1 ⟨rfl, hb1⟩
          have z2 := (hb1.cell (p := ⟨rb, 2, none⟩) (show rb < wa.heap.size by omega)).trans k2
          have z12 := (hb1.cell (p := ⟨rb, 12, none⟩) (show rb < wa.heap.size by omega)).trans k12
          have HG1 := Lib.hid (grownBel HG0.out hb1)
          clear hb1 HBG HBX HG0 k2 k12 hbk2 hbk4 hbk12
          go_wp2_with fail
          refine (bad_any (posL s l) _).mono ?_
          rintro e w9 ⟨rfl, hw9⟩
          subst w9
          go_wp2
          exact ⟨rfl, HQ.out.2 _ _ HRE.out HG1.out⟩
  · have hb' : begL h l = false := by simpa using hb
    rw [hb'] at HBG
    rw [pri_no hb'] at hj
    have HRE : Hid (R = .no l) := (Option.some.inj hj).symm
    have hbk2 : w.cell? ⟨rb, 2, none⟩ = some (.int .i64 (posL s l : Int)) := (hr.blk.cell 2)
    clear hj hb hb' hra hr H
    go_enter Tryd.func136, Tryd.ntmps136
    go_wp2_with fail
    refine HBG.out.mono ?_
    have k2 := (World.cell?_alloc_lt w (.cells #[.int .i64 0, .int .u64 0, .int .u64 0, .int .u64 0, .int .u64 0, .string ⟨#[]⟩, .slice none 0 0] 27) ⟨rb, 2, none⟩ hold).trans hbk2
    generalize (w.alloc (.cells #[.int .i64 0, .int .u64 0, .int .u64 0, .int .u64 0, .int .u64 0, .string ⟨#[]⟩, .slice none 0 0] 27)) = wa at HBG HBX HG0 hz k2 ⊢
    rintro e w1 ⟨rfl, hb1⟩
    have z2 := (hb1.cell (p := ⟨rb, 2, none⟩) (show rb < wa.heap.size by omega)).trans k2
    have HG1 := Lib.hid (grownBel HG0.out hb1)
    clear hb1 HBG HBX HG0 k2 hbk2
    go_wp2_with fail
    refine (bad_any (posL s l) _).mono ?_
    rintro e w9 ⟨rfl, hw9⟩
    subst w9
    go_wp2
    exact ⟨rfl, HQ.out.2 _ _ HRE.out HG1.out⟩
theorem does_all (s : ByteArray) (hs : s.size <= 100000) (h : Bool) (rb : Nat) : ∀ f, DoesR s h rb f
  | 0 => ⟨fun _ _ _ _ hj => (by cases hj), fun _ _ _ _ hj => (by cases hj), fun _ _ _ _ hj => (by cases hj), fun _ _ _ _ hj => (by cases hj)⟩
  | f + 1 =>
    have H := does_all s hs h rb f
    ⟨fun l R w hr hj => alt_any s hs h rb f H l R w hr hj, fun l R w hr hj => seqX_any s hs h rb f H l R w hr hj, fun l R w hr hj => pre_any s hs h rb f H l R w hr hj, fun l R w hr hj => pri_any s hs h rb f H l R w hr hj⟩
theorem below_of_new {w w' : World} {o : Obj} (h : (w.alloc o).grownBy w' (some w.heap.size)) : Below w.heap.size w w' :=
  ⟨h.os, h.tape, h.output, Nat.le_trans (by simp) h.size, fun k hk => (h.block k (by simp; omega) (fun e => by injection e with e; omega)).trans (Below.heap_alloc w o k hk)⟩
def NewQr (s : ByteArray) (h : Bool) (w : World) (e : Ending) (w' : World) : Prop :=
  Below w.heap.size w w' /\ w.heap.size + 1 <= w'.heap.size /\ (((tokL (skipL false s.data.toList)).isBad = true /\ e = .panicked [{ v := faultV (posL s (skipL false s.data.toList)), recovered := false }]) \/
    ((tokL (skipL false s.data.toList)).isBad = false /\ e = .returned (.pointer (some ⟨w.heap.size, 0, none⟩)) /\ RdAt s h w.heap.size (skipL false s.data.toList) w'))
theorem newr_any (s : ByteArray) (hs : s.size <= 100000) (h : Bool) (w : World) : Calls Tryd.prog 62 #[.string s, .bool h] w (NewQr s h w) := by
  have hb : Blk (w.alloc (.cells #[.string s, .bool h, .int .i64 0, .int .i64 0, .bool false, .int .i64 0, .int .u64 0, .int .u64 0, .int .u64 0, .int .u64 0, .string ⟨#[]⟩, .slice none 0 0, .int .u8 0] 119)) w.heap.size 119 #[.string s, .bool h, .int .i64 0, .int .i64 0, .bool false, .int .i64 0, .int .u64 0, .int .u64 0, .int .u64 0, .int .u64 0, .string ⟨#[]⟩, .slice none 0 0, .int .u8 0] := blk_at rfl
  have hn := fun (Q : Ending -> World -> Prop) h1 h2 => next_any s hs h w.heap.size 0 (Nat.zero_le _) _ _ _ _ _ _ _ _ _ _ _ _ hb Q (skipL false s.data.toList) (by rw [List.drop_zero]) h1 h2
  have HN := Lib.hid hn
  have HQ : Hid (((tokL (skipL false s.data.toList)).isBad = false -> ∀ W', (w.alloc (.cells #[.string s, .bool h, .int .i64 0, .int .i64 0, .bool false, .int .i64 0, .int .u64 0, .int .u64 0, .int .u64 0, .int .u64 0, .string ⟨#[]⟩, .slice none 0 0, .int .u8 0] 119)).grownBy W' (some w.heap.size) -> Blk W' w.heap.size 119 (rdC s h (posL s (skipL false s.data.toList)) (tkV (tokL (skipL false s.data.toList)))) -> NewQr s h w (.returned (.pointer (some ⟨w.heap.size, 0, none⟩))) W') /\
      ((tokL (skipL false s.data.toList)).isBad = true -> ∀ W', (w.alloc (.cells #[.string s, .bool h, .int .i64 0, .int .i64 0, .bool false, .int .i64 0, .int .u64 0, .int .u64 0, .int .u64 0, .int .u64 0, .string ⟨#[]⟩, .slice none 0 0, .int .u8 0] 119)).grownBy W' (some w.heap.size) -> NewQr s h w (.panicked [{ v := faultV (posL s (skipL false s.data.toList)), recovered := false }]) W')) :=
    ⟨fun hg W' hW hB => ⟨below_of_new hW, by have := hW.size; simpa using this, .inr ⟨hg, rfl, RdAt.of_ok (i0 := 0) (Nat.zero_le _) (by rw [List.drop_zero]) hg hB⟩⟩, fun hg W' hW => ⟨below_of_new hW, by have := hW.size; simpa using this, .inl ⟨hg, rfl⟩⟩⟩
  generalize NewQr s h w = Q at HQ ⊢
  clear hn hb
  go_enter Tryd.func62, Tryd.ntmps62
  go_wp2_with fail
  refine HN.out _ ?_ ?_
  · intro hg W' hW hB
    go_wp2
    exact HQ.out.1 hg W' hW hB
  · intro hg W' hW
    go_wp2
    exact ⟨rfl, HQ.out.2 hg W' hW⟩
theorem run_assert_fault (xT : TypeId) (i : Int) (w : World) : (Instr.typeAssert (.iface 168 (.agg #[.int .i64 i])) xT 168 true).run Tryd.prog w = .ok (.tuple #[.agg #[.int .i64 i], .bool true]) w := by
  simp [Instr.typeAssert, run_underlying Tryd.underlying168, go_sem, Result.andThen]
theorem catch_nil (a b : Addr) (w : World) : Calls Tryd.prog 61 #[.nilIface, .pointer (some a), .pointer (some b)] w fun e w' => e = .returned (.tuple #[]) /\ w' = w := by
  go_enter Tryd.func61, Tryd.ntmps61
  go_wp2
  refine bodyPost_ret (results_none rfl _ _ _) rfl ⟨rfl, rfl⟩
theorem catch_fault (i : Nat) (pa pb : Nat) (w : World) (va vb : Value) (ta tb : TypeId) (ha : Blk w pa ta #[va]) (hb : Blk w pb tb #[vb]) (hab : pa ≠ pb) :
    Calls Tryd.prog 61 #[faultV i, .pointer (some ⟨pa, 0, none⟩), .pointer (some ⟨pb, 0, none⟩)] w fun e w' => e = .returned (.tuple #[]) /\ w' = ((w.setCell ⟨pa, 0, none⟩ (.int .i64 (i : Int))).setCell ⟨pb, 0, none⟩ (.int .i64 4)).alloc (.cells #[.int .i64 (i : Int)] 168) := by
  unfold faultV
  have hta := fun W => run_assert_fault 20 (i : Int) W
  have la := ha.lt
  have lb := hb.lt
  have a0 : w.cell? ⟨pa, 0, none⟩ = some va := ha.cell 0
  have b0 : w.cell? ⟨pb, 0, none⟩ = some vb := hb.cell 0
  have fa := ha.frozen 0
  have fb := hb.frozen 0
  clear ha hb
  go_enter Tryd.func61, Tryd.ntmps61
  go_wp2
  go_end0
  exact ⟨rfl, rfl⟩
inductive ParseR (s : List UInt8) : Option Ex -> Nat -> Int -> Prop where
  | large : 2000 < s.length -> ParseR s none 0 2
  | syn (l : List UInt8) : s.length <= 2000 -> Whole s (.no l) -> ParseR s none (s.length - l.length) 4
  | bad (e : Ex) (l : List UInt8) : s.length <= 2000 -> Whole s (.ok e l) -> checkE e ≠ 0 -> ParseR s none 0 (checkE e)
  | ok (e : Ex) (l : List UInt8) : s.length <= 2000 -> Whole s (.ok e l) -> checkE e = 0 -> ParseR s (some e) 0 0
theorem ParseR.uniq {s : List UInt8} {e e' : Option Ex} {a a' : Nat} {x x' : Int} (h : ParseR s e a x) (h' : ParseR s e' a' x') : e = e' /\ a = a' /\ x = x' := by
  cases h with
  | large h1 =>
    cases h' with
    | large _ => exact ⟨rfl, rfl, rfl⟩
    | syn _ h2 => omega
    | bad _ _ h2 => omega
    | ok _ _ h2 => omega
  | syn l h1 h2 =>
    cases h' with
    | large h3 => omega
    | syn l' _ h3 => have := h2.uniq h3; injection this with this; rw [this]; exact ⟨rfl, rfl, rfl⟩
    | bad _ _ _ h3 => have := h2.uniq h3; cases this
    | ok _ _ _ h3 => have := h2.uniq h3; cases this
  | bad e l h1 h2 hc =>
    cases h' with
    | large h3 => omega
    | syn l' _ h3 => have := h2.uniq h3; cases this
    | bad _ _ _ h3 => have := h2.uniq h3; injection this with e1 _; rw [e1]; exact ⟨rfl, rfl, rfl⟩
    | ok _ _ _ h3 hc' => have := h2.uniq h3; injection this with e1 _; rw [e1] at hc; exact absurd hc' hc
  | ok e l h1 h2 hc =>
    cases h' with
    | large h3 => omega
    | syn l' _ h3 => have := h2.uniq h3; cases this
    | bad _ _ _ h3 hc' => have := h2.uniq h3; injection this with e1 _; rw [e1] at hc; exact absurd hc hc'
    | ok _ _ _ h3 => have := h2.uniq h3; injection this with e1 _; rw [e1]; exact ⟨rfl, rfl, rfl⟩
def Rs.rest : Rs -> List UInt8
  | .ok _ l => l
  | .no l => l
theorem find_any {g : List Rl} {A : Option Addr} {cp : Nat} {row : Nat -> List Value} {w : World} (h : GrIs w w.heap.size g A cp row) (s : ByteArray) :
    Calls Tryd.prog 34 #[.agg #[.slice A g.length cp], .string s] w fun e w' => e = .returned (.int .i64 (fnd g s.data.toList)) /\ Below w.heap.size w w' := by
  have hcap := h.cap
  have hle := h.le
  unfold maxLen at hcap
  have hm : g.length <= 9223372036854775807 := by omega
  have H := Lib.hid h
  have HF : Hid (fnd g s.data.toList = fndFrom (g.drop 0) s.data.toList 0) := by exact rfl
  clear h hcap hle
  go_enter Tryd.func34, Tryd.ntmps34
  go_wp2
  go_loopw [5, 6, 10] (fun _ _ i wr => ∃ j : Nat, j <= g.length /\ i = .int .i64 j /\ Hid (fnd g s.data.toList = fndFrom (g.drop j) s.data.toList j) /\ Below w.heap.size w wr) (fun _ _ i _ => g.length - (intOf i).toNat)
  case atStart => exact ⟨0, by omega, rfl, HF, bl⟩
  case round =>
    obtain ⟨j, hj, rfl, HR, hwr⟩ := hrel
    by_cases hjk : j < g.length
    · obtain ⟨ad, nm, k', a', b', c', d', t', ks', A', cp', rfl, hab, hej, hnm, hE, ⟨e0, e1, e2, e3, e4, e5, e6, e7⟩⟩ := (H.out.on hwr).rule hjk
      have hwz := hwr.size
      have HD := Lib.hid (drop_of hej)
      have hq := toList_eq_iff nm s
      clear hE hej
      by_cases hs : nm.data.toList = s.data.toList
      · have HE : Hid (fnd g s.data.toList = (j : Int)) := HR.out.trans (by rw [HD.out, fndFrom, if_pos hs])
        rw [decide_eq_true hs] at hq
        clear hs
        go_wp2
        go_ret
        exact ⟨ret_int HE.out.symm, bl⟩
      · have HE : Hid (fnd g s.data.toList = fndFrom (g.drop (j + 1)) s.data.toList (j + 1)) := HR.out.trans (by rw [HD.out, fndFrom, if_neg hs])
        rw [decide_eq_false hs] at hq
        clear hs
        go_wp2
        go_roundw
        case rel => exact ⟨j + 1, by omega, by go_num, HE, bl⟩
        case measure => simp [intOf]; omega
    · obtain rfl : j = g.length := by omega
      have HE : Hid (fnd g s.data.toList = -1) := HR.out.trans (by rw [List.drop_length, fndFrom])
      go_wp2
      go_ret
      exact ⟨ret_int HE.out.symm, hwr⟩
end Go.Proofs.YtndhbdbfjkmloaaDoor
namespace Go.Proofs.YtndhbdbfjkmloaaDoor
set_option maxHeartbeats 2000000
set_option maxRecDepth 100000
open Go.RowKit Go.Shelf
attribute [local go_sem] Oper.semAt_some
structure Nd where
  (k a b c d : Int) (t : ByteArray) (ht : t.size <= maxLen) (A : Option Addr) (n cp : Nat)
def Nd.val (x : Nd) : Value := .agg #[.int .i64 x.k, .int .u64 x.a, .int .u64 x.b, .int .u64 x.c, .int .u64 x.d, .string x.t, .slice x.A x.n x.cp]
def Nd.kt (x : Nd) : Int × ByteArray := (x.k, x.t)
mutual
def preE : Ex -> List (Int × ByteArray)
  | .mk k _ _ _ _ t ks => (k, t) :: preEs ks
def preEs : List Ex -> List (Int × ByteArray)
  | [] => []
  | e :: es => preE e ++ preEs es
end
theorem room_none {F : Fence} (hd : F.depth = none) (k : Nat) : F.room k := fun d h => by rw [hd] at h; cases h
theorem round_any {F : Fence} (hd : F.depth = none) {m m' : Nat} {P : Program} {l : Nat} {f : FuncId} {tmps : Array Value} {assign body : Code} {w : World} {R : Ending -> World -> Prop}
    (h : RoundIn F m P l f tmps assign body w R) : RoundIn F m' P l f tmps assign body w R := ⟨h.1, fun c cs _ => h.2 c cs (room_none hd _)⟩
theorem yield_any {F : Fence} (hd : F.depth = none) {m : Nat} (m' : Nat) {P : Program} {l : Nat} {args : Array Value} {W : World} {R : Ending -> World -> Prop} (h : YieldAt F m P l args W R) : YieldAt F m' P l args W R := by
  obtain ⟨fn, tmps, assign, body, hy, hR⟩ := h
  exact ⟨fn, tmps, assign, body, hy, round_any hd hR⟩
structure KeepE (n₀ : Nat) (W W' : World) : Prop where
  below : Below n₀ W W'
  blk : ∀ k cs, Blk W k 27 cs -> Blk W' k 27 cs
theorem KeepE.trans {n₀ : Nat} {A B C : World} (h : KeepE n₀ A B) (h' : KeepE n₀ B C) : KeepE n₀ A C := ⟨h.below.trans h'.below, fun k cs hk => h'.blk k cs (h.blk k cs hk)⟩
theorem KeepE.refl (n₀ : Nat) (A : World) : KeepE n₀ A A := ⟨Below.refl _ _, fun _ _ h => h⟩
theorem KeepE.alloc {n₀ : Nat} {A B : World} (h : KeepE n₀ A B) (hn : n₀ <= A.heap.size) (o : Obj) : KeepE n₀ A (B.alloc o) := ⟨h.below.alloc (Nat.le_trans hn h.below.size) o, fun k cs hk => (h.blk k cs hk).alloc o⟩
theorem all_in (F : Fence) (hd : F.depth = none) (hfn : F.fn 97) (hro : F.round = none) (l n₀ N : Nat) (J Jx : List Nd -> World -> Prop)
    (hJ : ∀ pre W o, J pre W -> J pre (W.alloc o)) (hn : ∀ pre W, J pre W -> n₀ <= W.heap.size)
    (hY : ∀ m pre x W, J pre W -> pre.length < N -> YieldAt F m Tryd.prog l #[x.val] W fun e W' =>
      (e = .returned (.bool true) /\ J (pre ++ [x]) W' /\ KeepE n₀ W W') \/ (e = .returned (.bool false) /\ Jx (pre ++ [x]) W')) (e : Ex) :
    ∀ (n : Nat) (cs : List Value) (pre : List Nd) (W : World), ExIs W n₀ e cs -> J pre W -> pre.length + (preE e).length <= N ->
      CallsIn F n Tryd.prog 97 #[.agg cs.toArray, .func (.yield l) #[] #[]] W fun e' W' =>
        (e' = .returned (.bool true) /\ (∃ ys : List Nd, ys.map Nd.kt = preE e /\ J (pre ++ ys) W') /\ KeepE n₀ W W') \/ (e' = .returned (.bool false) /\ ∃ q, Jx (pre ++ q) W') := by
  refine Ex.ind (P := fun e => ∀ (n : Nat) (cs : List Value) (pre : List Nd) (W : World), ExIs W n₀ e cs -> J pre W -> pre.length + (preE e).length <= N ->
      CallsIn F n Tryd.prog 97 #[.agg cs.toArray, .func (.yield l) #[] #[]] W fun e' W' =>
        (e' = .returned (.bool true) /\ (∃ ys : List Nd, ys.map Nd.kt = preE e /\ J (pre ++ ys) W') /\ KeepE n₀ W W') \/ (e' = .returned (.bool false) /\ ∃ q, Jx (pre ++ q) W')) ?_ e
  intro k a b c d t ks ih n cs pre W hE hJ0 hN
  have hdd : ∀ k : Nat, (F.depth.isSome = true -> 1 <= k) := fun k h => by rw [hd] at h; cases h
  obtain ⟨ht, A, cp, rfl, hkc, hcm, _⟩ := hE.shape
  have hW0 := hn _ _ hJ0
  have hm : ks.length <= 9223372036854775807 := by unfold maxLen at hcm; omega
  have hPE : preE (.mk k a b c d t ks) = (k, t) :: preEs ks := by rw [preE]
  have hl1 : pre.length < N := by rw [hPE] at hN; simp at hN; omega
  have hJ1 := hJ _ _ (.cells #[.int .i64 k, .int .u64 a, .int .u64 b, .int .u64 c, .int .u64 d, .string t, .slice A ks.length cp] 27) hJ0
  obtain ⟨x0, hxv, hxk⟩ : ∃ x : Nd, x.val = .agg #[.int .i64 k, .int .u64 a, .int .u64 b, .int .u64 c, .int .u64 d, .string t, .slice A ks.length cp] /\ x.kt = (k, t) := ⟨⟨k, a, b, c, d, t, ht, A, ks.length, cp⟩, rfl, rfl⟩
  have hyy := hY (n - 1) pre x0 _ hJ1 hl1
  rw [hxv] at hyy
  obtain ⟨fn, tmps, assign, body, hy, hR⟩ := hyy
  have HX := Lib.hid hxk
  clear hxv hxk
  have IH := Lib.hid ih
  have HE := Lib.hid hE
  have HPE := Lib.hid hPE
  have HN := Lib.hid hN
  clear ih hE hPE hN hJ1 hkc hcm ht
  unfold exCells at *
  refine callsIn_of_wp Tryd.func97 rfl hfn ?_ hro
  simp only [Tryd.ntmps97, List.size_toArray, List.length_cons, List.length_nil, Nat.reduceAdd, Nat.reduceSub, Array.replicate_succ, Array.replicate_zero, List.push_toArray, List.append_toArray, List.nil_append, List.cons_append]
  gi_wp2
  refine hR.mono ?_
  clear hR hy
  rintro e' W1 (⟨rfl, hJ2, hb1⟩ | ⟨rfl, hx1⟩)
  · have hb2 : KeepE n₀ W W1 := KeepE.trans ((KeepE.refl _ _).alloc hW0 _) hb1
    have hx3 : W1.cell? ⟨W.heap.size, 6, none⟩ = some (.slice A ks.length cp) := (hb1.blk _ _ (blk_at rfl)).cell 6
    clear hb1
    gi_wp2
    gi_loopw [6, 14] (fun _ i wr => ∃ (j : Nat) (ys : List Nd), j <= ks.length /\ i = .int .i64 j /\ Hid (ys.map Nd.kt ++ preEs (ks.drop j) = preE (.mk k a b c d t ks)) /\ J (pre ++ ys) wr /\ KeepE n₀ W wr) (fun _ i _ => ks.length - (intOf i).toNat)
    case atStart => exact ⟨0, [x0], by omega, rfl, by show _ = _; rw [HPE.out]; simp [HX.out], hJ2, hb2⟩
    case round =>
      obtain ⟨j, ys, hj, rfl, HY, hJw, hbw⟩ := hrel
      by_cases hjk : j < ks.length
      · obtain ⟨ad, k', a', b', c', d', t', ks', A', cp', rfl, hab, hej, hE', ⟨e0, e1, e2, e3, e4, e5, e6⟩⟩ := (HE.out.on hbw.below).kid hjk
        have hnw := hn _ _ hJw
        have HD := Lib.hid (drop_of hej)
        have hlen : (pre ++ ys).length + (preE (.mk k' a' b' c' d' t' ks')).length <= N := by
          have h1 := HN.out
          have h2 := congrArg List.length HY.out
          rw [HD.out, preEs] at h2
          simp at h2 ⊢
          omega
        have hcall := fun (o : Obj) => IH.out _ (List.mem_of_getElem? hej) (n - 1) _ (pre ++ ys) (wr.alloc o) (hE'.on ((Below.refl _ _).alloc hnw o)) (hJ _ _ o hJw) hlen
        have HCall := Lib.hid hcall
        clear hcall hej hE' hlen
        unfold exCells at HCall
        gi_wp2_with ((try refine ⟨hdd _, ?_⟩); gi_at_call 97; refine (HCall.out _).mono ?_; rintro e' w2 (⟨rfl, ⟨zs, hz, hJ3⟩, hb3⟩ | ⟨rfl, q, hq⟩))
        · have hb4 : KeepE n₀ W w2 := KeepE.trans (hbw.alloc hW0 _) hb3
          clear hb3
          go_roundw
          case rel => exact ⟨j + 1, ys ++ zs, by omega, by go_num, by show _ = _; rw [<- HY.out, HD.out, preEs, List.map_append, hz, List.append_assoc], by rw [<- List.append_assoc]; exact hJ3, hb4⟩
          case measure => simp [intOf]; omega
        · go_ret
          exact .inr ⟨rfl, _, by rw [<- List.append_assoc]; exact hq⟩
      · obtain rfl : j = ks.length := by omega
        gi_wp2
        go_ret
        exact .inl ⟨rfl, ⟨ys, by have := HY.out; rw [List.drop_length, preEs, List.append_nil] at this; exact this, hJw⟩, hbw⟩
  · gi_wp2
    go_ret
    exact .inr ⟨rfl, _, hx1⟩
end Go.Proofs.YtndhbdbfjkmloaaDoor
