/- The reader's smallest things: a sign by itself, brackets. -/
import Derived.Test.YtndhbdbfjkmloaaDoorJReadLeast13
namespace Go.Proofs.YtndhbdbfjkmloaaDoor
open Go.RowKit

theorem thenGo_eq (l : List UInt8) (n : Nat) (k : List UInt8 → Option Rs) : thenGo l n k = if (tokL (goL l n)).isBad = true then some (.no (goL l n)) else k (goL l n) := rfl
theorem pri_no {h : Bool} {f : Nat} {l : List UInt8} (hb : begL h l = false) : rdJ h (f + 1) .pri l = some (.no l) := by
  rw [rdJ, if_neg (by rw [hb]; decide)]
theorem pri_nd {h : Bool} {f n : Nat} {l : List UInt8} {e : Ex} (hb : begL h l = true) (ht : tokL l = .nd e n) : rdJ h (f + 1) .pri l = thenGo l n fun l1 => some (.ok e l1) := by
  rw [rdJ, if_pos hb, ht]
theorem pri_sg {h : Bool} {f c n : Nat} {l : List UInt8} (hb : begL h l = true) (ht : tokL l = .sg c n) (hc : c ≠ 40) : rdJ h (f + 1) .pri l = some (.no l) := by
  rw [rdJ, if_pos hb, ht]
  simp only [if_neg hc]
/-- behind an open bracket -/
def brkJ (h : Bool) (f : Nat) (l1 : List UInt8) : Option Rs := bindR (rdJ h f .alt l1) fun e l2 => match tokL l2 with
  | .sg c2 n2 => if c2 = 41 then thenGo l2 n2 fun l3 => some (.ok e l3) else some (.no l2)
  | _ => some (.no l2)
theorem pri_br {h : Bool} {f n : Nat} {l : List UInt8} (hb : begL h l = true) (ht : tokL l = .sg 40 n) : rdJ h (f + 1) .pri l = thenGo l n fun l1 => match tokL l1 with
    | .sg c1 n1 => if c1 = 41 then thenGo l1 n1 fun l2 => some (.ok eNil l2) else brkJ h f l1
    | _ => brkJ h f l1 := by
  rw [rdJ, if_pos hb, ht]
  rfl
theorem br_nil {h : Bool} {f n1 : Nat} {l1 : List UInt8} (ht : tokL l1 = .sg 41 n1) : (match tokL l1 with
    | .sg c1 n1 => if c1 = 41 then thenGo l1 n1 fun l2 => some (.ok eNil l2) else brkJ h f l1
    | _ => brkJ h f l1) = thenGo l1 n1 fun l2 => some (.ok eNil l2) := by
  rw [ht]
  rfl
theorem br_alt {h : Bool} {f : Nat} {l1 : List UInt8} (ht : ∀ n, tokL l1 ≠ .sg 41 n) : (match tokL l1 with
    | .sg c1 n1 => if c1 = 41 then thenGo l1 n1 fun l2 => some (.ok eNil l2) else brkJ h f l1
    | _ => brkJ h f l1) = brkJ h f l1 := by
  cases hx : tokL l1 with
  | sg c n =>
    have hc : c ≠ 41 := fun e => by subst e; exact ht n hx
    simp only [if_neg hc]
  | _ => rfl
theorem cl_yes {l2 : List UInt8} {e : Ex} {n2 : Nat} (ht : tokL l2 = .sg 41 n2) : (match tokL l2 with
    | .sg c2 n2 => if c2 = 41 then thenGo l2 n2 fun l3 => some (Rs.ok e l3) else some (.no l2)
    | _ => some (.no l2)) = thenGo l2 n2 fun l3 => some (.ok e l3) := by
  rw [ht]
  rfl
theorem cl_no {l2 : List UInt8} {e : Ex} (ht : ∀ n, tokL l2 ≠ .sg 41 n) : (match tokL l2 with
    | .sg c2 n2 => if c2 = 41 then thenGo l2 n2 fun l3 => some (Rs.ok e l3) else some (.no l2)
    | _ => some (.no l2)) = some (.no l2) := by
  cases hx : tokL l2 with
  | sg c n =>
    have hc : c ≠ 41 := fun e => by subst e; exact ht n hx
    simp only [if_neg hc]
  | _ => rfl
set_option maxRecDepth 100000 in
set_option maxHeartbeats 4000000 in
theorem pri_any (s : ByteArray) (hs : s.size ≤ 100000) (h : Bool) (rb f : Nat) (H : DoesR s h rb f) (l : List UInt8) (R : Rs) (w : World) (hr : RdAt s h rb l w) (hj : rdJ h (f + 1) .pri l = some R) :
    Calls Tryd.prog 136 #[.pointer (some ⟨rb, 0, none⟩)] w (PrsQ s h rb w R) := by
  have HQ : Hid ((∀ x l' cs W', R = .ok x l' → w.grownBy W' (some rb) → ExF (fun b => w.heap.size ≤ b ∧ b < W'.heap.size) W'.heap.size W' x cs → RdAt s h rb l' W' → PrsQ s h rb w R (.returned (.agg cs.toArray)) W') ∧
      (∀ l' W', R = .no l' → w.grownBy W' (some rb) → PrsQ s h rb w R (.panicked [{ v := faultV (posL s l'), recovered := false }]) W')) :=
    ⟨fun x l' cs W' e h1 h2 h3 => by subst e; exact ⟨h1, ⟨cs, rfl, h2⟩, h3⟩, fun l' W' e h1 => by subst e; exact ⟨h1, rfl⟩⟩
  generalize PrsQ s h rb w R = Q at HQ ⊢
  have hold := hr.blk.lt
  have hra := hr.below ((Below.refl _ _).alloc (Nat.le_refl _) (.cells #[.int .i64 0, .int .u64 0, .int .u64 0, .int .u64 0, .int .u64 0, .string ⟨#[]⟩, .slice none 0 0] 27))
  have HBX : Hid (Blk (w.alloc (.cells #[.int .i64 0, .int .u64 0, .int .u64 0, .int .u64 0, .int .u64 0, .string ⟨#[]⟩, .slice none 0 0] 27)) w.heap.size 27 #[.int .i64 0, .int .u64 0, .int .u64 0, .int .u64 0, .int .u64 0, .string ⟨#[]⟩, .slice none 0 0]) := blk_at rfl
  have HG0 : Hid (w.grownBy (w.alloc (.cells #[.int .i64 0, .int .u64 0, .int .u64 0, .int .u64 0, .int .u64 0, .string ⟨#[]⟩, .slice none 0 0] 27)) (some rb)) := World.grownBy_alloc _ _ _
  have hz : (w.alloc (.cells #[.int .i64 0, .int .u64 0, .int .u64 0, .int .u64 0, .int .u64 0, .string ⟨#[]⟩, .slice none 0 0] 27)).heap.size = w.heap.size + 1 := by simp
  have HBG := Lib.hid (begins_any s hs h rb l _ hra)
  by_cases hb : begL h l = true
  · rw [hb] at HBG
    cases ht : tokL l with
    | fin => unfold begL at hb; rw [ht] at hb; cases hb
    | bad => unfold begL at hb; rw [ht] at hb; cases hb
    | nd e n =>
      rw [pri_nd hb ht] at hj
      obtain ⟨_, _, k, a, b, c, d, t, rfl, hk1, _, _, _, _, htl⟩ := tok_nd ht
      have hkn : tkn (tokL l) = n := by rw [ht]; rfl
      have hll := hr.pos.2.2
      have hbk : Blk w rb 119 #[.string s, .bool h, .int .i64 (posL s l : Int), .int .i64 ((posL s l + n : Nat) : Int), .bool true, .int .i64 k, .int .u64 a, .int .u64 b, .int .u64 c, .int .u64 d, .string t, .slice none 0 0, .int .u8 0] := by
        have := hr.blk
        rw [ht] at this
        exact this
      have hleaf := fun (S : Nat → Prop) (hi : Nat) (W : World) => ExF.leaf S hi W k a b c d t (by unfold maxLen; omega)
      have HLF := Lib.hid hleaf
      unfold thenGo at hj
      have HGO := Lib.hid (fun (W : World) (hW : RdAt s h rb l W) => go_any s hs h rb l W hW)
      unfold GoQ at HGO
      rw [hkn] at HGO
      have HRA := Lib.hid hra
      clear hkn ht hleaf htl hk1 hra hr H hb hll
      generalize goL l n = lg at HGO hj
      have HJ := Lib.hid hj
      clear hj
      go_enter Tryd.func136, Tryd.ntmps136
      go_wp2_with fail
      refine HBG.out.mono ?_
      have hbk1 := hbk.alloc (.cells #[.int .i64 0, .int .u64 0, .int .u64 0, .int .u64 0, .int .u64 0, .string ⟨#[]⟩, .slice none 0 0] 27)
      generalize (w.alloc (.cells #[.int .i64 0, .int .u64 0, .int .u64 0, .int .u64 0, .int .u64 0, .string ⟨#[]⟩, .slice none 0 0] 27)) = wa at HBG HBX HG0 hz hbk1 HRA ⊢
      rintro e w1 ⟨rfl, hb1⟩
      have hb2 := hbk1.below hb1 hbk1.lt
      have z4 := hb2.cell 4
      have z5 := hb2.cell 5
      have z6 := hb2.cell 6
      have z7 := hb2.cell 7
      have z8 := hb2.cell 8
      have z9 := hb2.cell 9
      have z10 := hb2.cell 10
      have z11 := hb2.cell 11
      have z12 := hb2.cell 12
      have hr1 := HRA.out.below hb1
      have hbx1 := HBX.out.below hb1 (by omega)
      have hg1 := grownBel HG0.out hb1
      have hs1 := hb1.size
      rw [hz] at hs1
      have hr2 := hr1.below ((Below.refl _ _).alloc (Nat.le_refl _) (.cells #[.int .i64 k, .int .u64 a, .int .u64 b, .int .u64 c, .int .u64 d, .string t, .slice none 0 0] 27))
      have hbx2 := hbx1.alloc (.cells #[.int .i64 k, .int .u64 a, .int .u64 b, .int .u64 c, .int .u64 d, .string t, .slice none 0 0] 27)
      have hg2 := hg1.trans (World.grownBy_alloc w1 (.cells #[.int .i64 k, .int .u64 a, .int .u64 b, .int .u64 c, .int .u64 d, .string t, .slice none 0 0] 27) (some rb))
      have hx2 := Blk.new w1 27 #[.int .i64 k, .int .u64 a, .int .u64 b, .int .u64 c, .int .u64 d, .string t, .slice none 0 0]
      clear hbk hbk1 hb1 HBG HBX HG0 hb2 HRA hr1 hbx1 hg1
      go_upto_region 5 with fail
      generalize (w1.alloc (.cells #[.int .i64 k, .int .u64 a, .int .u64 b, .int .u64 c, .int .u64 d, .string t, .slice none 0 0] 27)) = w2 at hr2 hbx2 hg2 hx2 ⊢
      generalize w1.heap.size = xb at hx2 hs1 ⊢
      clear z4 z5 z6 z7 z8 z9 z10 z11 z12
      go_wp2_with fail
      refine (HGO.out w2 hr2).mono ?_
      rintro e w3 ⟨hg3, ⟨hbad, rfl⟩ | ⟨hgood, rfl, hr3⟩⟩
      · skip
        have hRe : Rs.no lg = R := by
          have := HJ.out
          rw [if_pos hbad] at this
          exact Option.some.inj this
        have HRE := Lib.hid hRe
        clear hRe
        go_wp2
        exact ⟨rfl, HQ.out.2 _ _ HRE.out.symm (hg2.trans hg3)⟩
      · have hj := HJ.out
        rw [if_neg (by rw [hgood]; decide)] at hj
        have HRE : Hid (R = .ok (.mk k a b c d t []) lg) := (Option.some.inj hj).symm
        have hx3 := hx2.grown hg3 (fun e => by injection e with e; omega)
        have hbx3 := hbx2.grown hg3 (fun e => by injection e with e; omega)
        have hg4 := hg2.trans hg3
        have x0 := hx3.cell 0
        have x1 := hx3.cell 1
        have x2 := hx3.cell 2
        have x3 := hx3.cell 3
        have x4 := hx3.cell 4
        have x5 := hx3.cell 5
        have x6 := hx3.cell 6
        have HLX := Lib.hid (HLF.out (fun b => w.heap.size + 1 ≤ b ∧ b < w3.heap.size) w3.heap.size w3)
        have HG4 := Lib.hid hg4
        have HR3 := Lib.hid hr3
        clear hj HJ hx2 hx3 hbx2 hg2 hg3 hg4 hr2 hr3 HLF
        have hob := (hbx3).lt
        have yz0 : w3.cell? ⟨w.heap.size, 0, none⟩ = some (.int .i64 0) := hbx3.cell 0; have yz1 : w3.cell? ⟨w.heap.size, 1, none⟩ = some (.int .u64 0) := hbx3.cell 1; have yz2 : w3.cell? ⟨w.heap.size, 2, none⟩ = some (.int .u64 0) := hbx3.cell 2; have yz3 : w3.cell? ⟨w.heap.size, 3, none⟩ = some (.int .u64 0) := hbx3.cell 3; have yz4 : w3.cell? ⟨w.heap.size, 4, none⟩ = some (.int .u64 0) := hbx3.cell 4; have yz5 : w3.cell? ⟨w.heap.size, 5, none⟩ = some (.string ⟨#[]⟩) := hbx3.cell 5; have yz6 : w3.cell? ⟨w.heap.size, 6, none⟩ = some (.slice none 0 0) := hbx3.cell 6; have yf0 := hbx3.frozen 0; have yf1 := hbx3.frozen 1; have yf2 := hbx3.frozen 2; have yf3 := hbx3.frozen 3; have yf4 := hbx3.frozen 4; have yf5 := hbx3.frozen 5; have yf6 := hbx3.frozen 6; have ye0 : (w3.setCell ⟨w.heap.size, 0, none⟩ (.int .i64 k)).cell? ⟨w.heap.size, 0, none⟩ = some (.int .i64 k) := (hbx3.set_ 0 _).cell 0; have ye1 : ((w3.setCell ⟨w.heap.size, 0, none⟩ (.int .i64 k)).setCell ⟨w.heap.size, 1, none⟩ (.int .u64 a)).cell? ⟨w.heap.size, 1, none⟩ = some (.int .u64 a) := ((hbx3.set_ 0 _).set_ 1 _).cell 1; have ye2 : (((w3.setCell ⟨w.heap.size, 0, none⟩ (.int .i64 k)).setCell ⟨w.heap.size, 1, none⟩ (.int .u64 a)).setCell ⟨w.heap.size, 2, none⟩ (.int .u64 b)).cell? ⟨w.heap.size, 2, none⟩ = some (.int .u64 b) := (((hbx3.set_ 0 _).set_ 1 _).set_ 2 _).cell 2; have ye3 : ((((w3.setCell ⟨w.heap.size, 0, none⟩ (.int .i64 k)).setCell ⟨w.heap.size, 1, none⟩ (.int .u64 a)).setCell ⟨w.heap.size, 2, none⟩ (.int .u64 b)).setCell ⟨w.heap.size, 3, none⟩ (.int .u64 c)).cell? ⟨w.heap.size, 3, none⟩ = some (.int .u64 c) := ((((hbx3.set_ 0 _).set_ 1 _).set_ 2 _).set_ 3 _).cell 3; have ye4 : (((((w3.setCell ⟨w.heap.size, 0, none⟩ (.int .i64 k)).setCell ⟨w.heap.size, 1, none⟩ (.int .u64 a)).setCell ⟨w.heap.size, 2, none⟩ (.int .u64 b)).setCell ⟨w.heap.size, 3, none⟩ (.int .u64 c)).setCell ⟨w.heap.size, 4, none⟩ (.int .u64 d)).cell? ⟨w.heap.size, 4, none⟩ = some (.int .u64 d) := (((((hbx3.set_ 0 _).set_ 1 _).set_ 2 _).set_ 3 _).set_ 4 _).cell 4; have ye5 : ((((((w3.setCell ⟨w.heap.size, 0, none⟩ (.int .i64 k)).setCell ⟨w.heap.size, 1, none⟩ (.int .u64 a)).setCell ⟨w.heap.size, 2, none⟩ (.int .u64 b)).setCell ⟨w.heap.size, 3, none⟩ (.int .u64 c)).setCell ⟨w.heap.size, 4, none⟩ (.int .u64 d)).setCell ⟨w.heap.size, 5, none⟩ (.string t)).cell? ⟨w.heap.size, 5, none⟩ = some (.string t) := ((((((hbx3.set_ 0 _).set_ 1 _).set_ 2 _).set_ 3 _).set_ 4 _).set_ 5 _).cell 5; have ye6 : (((((((w3.setCell ⟨w.heap.size, 0, none⟩ (.int .i64 k)).setCell ⟨w.heap.size, 1, none⟩ (.int .u64 a)).setCell ⟨w.heap.size, 2, none⟩ (.int .u64 b)).setCell ⟨w.heap.size, 3, none⟩ (.int .u64 c)).setCell ⟨w.heap.size, 4, none⟩ (.int .u64 d)).setCell ⟨w.heap.size, 5, none⟩ (.string t)).setCell ⟨w.heap.size, 6, none⟩ (.slice none 0 0)).cell? ⟨w.heap.size, 6, none⟩ = some (.slice none 0 0) := (((((((hbx3.set_ 0 _).set_ 1 _).set_ 2 _).set_ 3 _).set_ 4 _).set_ 5 _).set_ 6 _).cell 6
        go_wp2
        exact bodyPost_ret (v := .agg #[.int .i64 k, .int .u64 a, .int .u64 b, .int .u64 c, .int .u64 d, .string t, .slice none 0 0]) (by simp [results, Tryd.results136, go_sem, ye0, ye1, ye2, ye3, ye4, ye5, ye6]) rfl (HQ.out.1 _ _ [.int .i64 k, .int .u64 a, .int .u64 b, .int .u64 c, .int .u64 d, .string t, .slice none 0 0] _ HRE.out (grown_set7 HG4.out (Nat.le_refl _) _ _ _ _ _ _ _) ((HLX.out).res7 (by omega) (by omega) _ _ _ _ _ _ _) ((HR3.out).set7 (by omega) _ _ _ _ _ _ _))
    | sg c n =>
      have hbk4 : w.cell? ⟨rb, 4, none⟩ = some (.bool false) := (hr.blk.cell 4).trans (by rw [ht]; rfl)
      have hbk12 : w.cell? ⟨rb, 12, none⟩ = some (.int .u8 (c : Int)) := (hr.blk.cell 12).trans (by rw [ht]; rfl)
      have hbk2 : w.cell? ⟨rb, 2, none⟩ = some (.int .i64 (posL s l : Int)) := (hr.blk.cell 2)
      by_cases hc : c = 40
      · subst hc
        rw [pri_br hb ht] at hj
        have hkn : tkn (tokL l) = n := by rw [ht]; rfl
        rw [thenGo_eq] at hj
        have HGO := Lib.hid (go_any s hs h rb l)
        have HG1 := Lib.hid (fun (x : List UInt8) (W : World) (hW : RdAt s h rb x W) => go_any s hs h rb x W hW)
        unfold GoQ at HGO
        rw [hkn] at HGO
        have HRA := Lib.hid hra
        have HAL := Lib.hid H.alt
        clear hkn ht hra hr H hb hbk2
        generalize goL l n = lg at HGO hj
        have HJ := Lib.hid hj
        clear hj
        go_enter Tryd.func136, Tryd.ntmps136
        go_wp2_with fail
        refine HBG.out.mono ?_
        have k4 : (w.alloc (.cells #[.int .i64 0, .int .u64 0, .int .u64 0, .int .u64 0, .int .u64 0, .string ⟨#[]⟩, .slice none 0 0] 27)).cell? ⟨rb, 4, none⟩ = some (.bool false) := (World.cell?_alloc_lt w _ ⟨rb, 4, none⟩ hold).trans hbk4
        have k12 : (w.alloc (.cells #[.int .i64 0, .int .u64 0, .int .u64 0, .int .u64 0, .int .u64 0, .string ⟨#[]⟩, .slice none 0 0] 27)).cell? ⟨rb, 12, none⟩ = some (.int .u8 40) := (World.cell?_alloc_lt w _ ⟨rb, 12, none⟩ hold).trans hbk12
        generalize (w.alloc (.cells #[.int .i64 0, .int .u64 0, .int .u64 0, .int .u64 0, .int .u64 0, .string ⟨#[]⟩, .slice none 0 0] 27)) = wa at HBG HBX HG0 hz HRA k4 k12 ⊢
        rintro e w1 ⟨rfl, hb1⟩
        have z4 := (hb1.cell (p := ⟨rb, 4, none⟩) HRA.out.blk.lt).trans k4
        have z12 := (hb1.cell (p := ⟨rb, 12, none⟩) HRA.out.blk.lt).trans k12
        have hr1 := HRA.out.below hb1
        have hbx1 := HBX.out.below hb1 (by omega)
        have hg1 := grownBel HG0.out hb1
        have hs1 := hb1.size
        rw [hz] at hs1
        clear hb1 HBG HBX HG0 HRA k4 k12 hbk4 hbk12
        go_wp2_with fail
        refine (HGO.out w1 hr1).mono ?_
        rintro e w2 ⟨hg2, ⟨hbad, rfl⟩ | ⟨hgood, rfl, hr2⟩⟩
        · skip
          have hRe : Rs.no lg = R := by
            have := HJ.out
            rw [if_pos hbad] at this
            exact Option.some.inj this
          have HRE := Lib.hid hRe
          clear hRe
          go_wp2
          exact ⟨rfl, HQ.out.2 _ _ HRE.out.symm (hg1.trans hg2)⟩
        · have hj := HJ.out
          rw [if_neg (by rw [hgood]; decide)] at hj
          have hbx2 := hbx1.grown hg2 (fun e => by injection e with e; omega)
          have HG2 := Lib.hid (hg1.trans hg2)
          have hs2 := Nat.le_trans hs1 hg2.size
          clear hr1 hbx1 hg1 hg2 HGO HJ z4 z12 hs1
          by_cases h41 : ∃ n1, tokL lg = .sg 41 n1
          · obtain ⟨n1, ht1⟩ := h41
            rw [br_nil ht1] at hj
            have hkn : tkn (tokL lg) = n1 := by rw [ht1]; rfl
            have y12 : w2.cell? ⟨rb, 12, none⟩ = some (.int .u8 41) := (hr2.blk.cell 12).trans (by rw [rdC_get, ht1]; rfl)
            have HGO := Lib.hid (HG1.out lg w2 hr2)
            unfold GoQ at HGO
            rw [hkn] at HGO
            unfold thenGo at hj
            clear hkn ht1 HG1
            generalize goL lg n1 = lh at HGO hj
            have HJ := Lib.hid hj
            clear hj
            go_wp2_with fail
            refine HGO.out.mono ?_
            rintro e w3 ⟨hg3, ⟨hbad, rfl⟩ | ⟨hgood3, rfl, hr3⟩⟩
            · skip
              have hRe : Rs.no lh = R := by
                have := HJ.out
                rw [if_pos hbad] at this
                exact Option.some.inj this
              have HRE := Lib.hid hRe
              clear hRe
              go_wp2
              exact ⟨rfl, HQ.out.2 _ _ HRE.out.symm (HG2.out.trans hg3)⟩
            · have hj := HJ.out
              rw [if_neg (by rw [hgood3]; decide)] at hj
              have HRE : Hid (R = .ok eNil lh) := (Option.some.inj hj).symm
              have hbx3 := hbx2.grown hg3 (fun e => by injection e with e; omega)
              have HLX : Hid (ExF (fun b => w.heap.size + 1 ≤ b ∧ b < w3.heap.size) w3.heap.size w3 eNil [.int .i64 1, .int .u64 0, .int .u64 0, .int .u64 0, .int .u64 0, .string ⟨#[]⟩, .slice none 0 0]) := ExF.leaf _ _ _ 1 0 0 0 0 ⟨#[]⟩ (by decide)
              have HG3 := Lib.hid (HG2.out.trans hg3)
              have HR3 := Lib.hid hr3
              clear hj HJ HGO hg3 hr2 hr3 hbx2 y12
              have hob := (hbx3).lt
              have yz0 : w3.cell? ⟨w.heap.size, 0, none⟩ = some (.int .i64 0) := hbx3.cell 0; have yz1 : w3.cell? ⟨w.heap.size, 1, none⟩ = some (.int .u64 0) := hbx3.cell 1; have yz2 : w3.cell? ⟨w.heap.size, 2, none⟩ = some (.int .u64 0) := hbx3.cell 2; have yz3 : w3.cell? ⟨w.heap.size, 3, none⟩ = some (.int .u64 0) := hbx3.cell 3; have yz4 : w3.cell? ⟨w.heap.size, 4, none⟩ = some (.int .u64 0) := hbx3.cell 4; have yz5 : w3.cell? ⟨w.heap.size, 5, none⟩ = some (.string ⟨#[]⟩) := hbx3.cell 5; have yz6 : w3.cell? ⟨w.heap.size, 6, none⟩ = some (.slice none 0 0) := hbx3.cell 6; have yf0 := hbx3.frozen 0; have yf1 := hbx3.frozen 1; have yf2 := hbx3.frozen 2; have yf3 := hbx3.frozen 3; have yf4 := hbx3.frozen 4; have yf5 := hbx3.frozen 5; have yf6 := hbx3.frozen 6; have ye0 : (w3.setCell ⟨w.heap.size, 0, none⟩ (.int .i64 1)).cell? ⟨w.heap.size, 0, none⟩ = some (.int .i64 1) := (hbx3.set_ 0 _).cell 0; have ye1 : ((w3.setCell ⟨w.heap.size, 0, none⟩ (.int .i64 1)).setCell ⟨w.heap.size, 1, none⟩ (.int .u64 0)).cell? ⟨w.heap.size, 1, none⟩ = some (.int .u64 0) := ((hbx3.set_ 0 _).set_ 1 _).cell 1; have ye2 : (((w3.setCell ⟨w.heap.size, 0, none⟩ (.int .i64 1)).setCell ⟨w.heap.size, 1, none⟩ (.int .u64 0)).setCell ⟨w.heap.size, 2, none⟩ (.int .u64 0)).cell? ⟨w.heap.size, 2, none⟩ = some (.int .u64 0) := (((hbx3.set_ 0 _).set_ 1 _).set_ 2 _).cell 2; have ye3 : ((((w3.setCell ⟨w.heap.size, 0, none⟩ (.int .i64 1)).setCell ⟨w.heap.size, 1, none⟩ (.int .u64 0)).setCell ⟨w.heap.size, 2, none⟩ (.int .u64 0)).setCell ⟨w.heap.size, 3, none⟩ (.int .u64 0)).cell? ⟨w.heap.size, 3, none⟩ = some (.int .u64 0) := ((((hbx3.set_ 0 _).set_ 1 _).set_ 2 _).set_ 3 _).cell 3; have ye4 : (((((w3.setCell ⟨w.heap.size, 0, none⟩ (.int .i64 1)).setCell ⟨w.heap.size, 1, none⟩ (.int .u64 0)).setCell ⟨w.heap.size, 2, none⟩ (.int .u64 0)).setCell ⟨w.heap.size, 3, none⟩ (.int .u64 0)).setCell ⟨w.heap.size, 4, none⟩ (.int .u64 0)).cell? ⟨w.heap.size, 4, none⟩ = some (.int .u64 0) := (((((hbx3.set_ 0 _).set_ 1 _).set_ 2 _).set_ 3 _).set_ 4 _).cell 4; have ye5 : ((((((w3.setCell ⟨w.heap.size, 0, none⟩ (.int .i64 1)).setCell ⟨w.heap.size, 1, none⟩ (.int .u64 0)).setCell ⟨w.heap.size, 2, none⟩ (.int .u64 0)).setCell ⟨w.heap.size, 3, none⟩ (.int .u64 0)).setCell ⟨w.heap.size, 4, none⟩ (.int .u64 0)).setCell ⟨w.heap.size, 5, none⟩ (.string ⟨#[]⟩)).cell? ⟨w.heap.size, 5, none⟩ = some (.string ⟨#[]⟩) := ((((((hbx3.set_ 0 _).set_ 1 _).set_ 2 _).set_ 3 _).set_ 4 _).set_ 5 _).cell 5; have ye6 : (((((((w3.setCell ⟨w.heap.size, 0, none⟩ (.int .i64 1)).setCell ⟨w.heap.size, 1, none⟩ (.int .u64 0)).setCell ⟨w.heap.size, 2, none⟩ (.int .u64 0)).setCell ⟨w.heap.size, 3, none⟩ (.int .u64 0)).setCell ⟨w.heap.size, 4, none⟩ (.int .u64 0)).setCell ⟨w.heap.size, 5, none⟩ (.string ⟨#[]⟩)).setCell ⟨w.heap.size, 6, none⟩ (.slice none 0 0)).cell? ⟨w.heap.size, 6, none⟩ = some (.slice none 0 0) := (((((((hbx3.set_ 0 _).set_ 1 _).set_ 2 _).set_ 3 _).set_ 4 _).set_ 5 _).set_ 6 _).cell 6
              go_wp2
              exact bodyPost_ret (v := .agg #[.int .i64 1, .int .u64 0, .int .u64 0, .int .u64 0, .int .u64 0, .string ⟨#[]⟩, .slice none 0 0]) (by simp [results, Tryd.results136, go_sem, ye0, ye1, ye2, ye3, ye4, ye5, ye6]) rfl (HQ.out.1 _ _ [.int .i64 1, .int .u64 0, .int .u64 0, .int .u64 0, .int .u64 0, .string ⟨#[]⟩, .slice none 0 0] _ HRE.out (grown_set7 HG3.out (Nat.le_refl _) _ _ _ _ _ _ _) ((HLX.out).res7 (by omega) (by omega) _ _ _ _ _ _ _) ((HR3.out).set7 (by omega) _ _ _ _ _ _ _))
          · rw [br_alt (fun n e => h41 ⟨n, e⟩)] at hj
            unfold brkJ at hj
            have hs41 := sg_ne (l := lg) (c := 41) (fun n e => h41 ⟨n, e⟩) (by decide)
            have y12 := hr2.blk.cell 12
            rw [rdC_get] at y12
            have e41 : (((tkV (tokL lg)).sg : Int) == 41) = false := by rw [beq_eq_false_iff_ne]; omega
            generalize (tkV (tokL lg)).sg = sgv at y12 e41
            clear hs41 h41
            cases hx : rdJ h f .alt lg with
            | none => rw [hx] at hj; cases hj
            | some R1 =>
              rw [hx] at hj
              have HP := Lib.hid (HAL.out lg R1 w2 hr2 hx)
              have HJ := Lib.hid hj
              clear hx hj HAL hr2
              go_wp2_with fail
              refine HP.out.mono ?_
              rintro e w3 ⟨hg3, hR1⟩
              cases R1 with
              | no l1 =>
                simp only at hR1
                subst hR1
                have hRe : Rs.no l1 = R := Option.some.inj HJ.out
                have HRE := Lib.hid hRe
                clear hRe
                go_wp2
                exact ⟨rfl, HQ.out.2 _ _ HRE.out.symm (HG2.out.trans hg3)⟩
              | ok x l2 =>
                obtain ⟨⟨cs, rfl, hE⟩, hr3⟩ := hR1
                obtain ⟨k, a, b, c, d, t, A, nn, cp, rfl⟩ := Ex.parts _ hE.is
                have hbx3 := hbx2.grown hg3 (fun e => by injection e with e; omega)
                have hs3 := Nat.le_trans hs2 hg3.size
                have hr4 := hr3.below ((Below.refl _ _).alloc (Nat.le_refl _) (.cells #[.int .i64 k, .int .u64 a, .int .u64 b, .int .u64 c, .int .u64 d, .string t, .slice A nn cp] 27))
                have hbx4 := hbx3.alloc (.cells #[.int .i64 k, .int .u64 a, .int .u64 b, .int .u64 c, .int .u64 d, .string t, .slice A nn cp] 27)
                have hg4 := (HG2.out.trans hg3).trans (World.grownBy_alloc w3 (.cells #[.int .i64 k, .int .u64 a, .int .u64 b, .int .u64 c, .int .u64 d, .string t, .slice A nn cp] 27) (some rb))
                have hx4 := Blk.new w3 27 #[.int .i64 k, .int .u64 a, .int .u64 b, .int .u64 c, .int .u64 d, .string t, .slice A nn cp]
                have hE4 := (hE.mono (S' := fun b => w.heap.size + 1 ≤ b ∧ b < w3.heap.size) (fun b hb => ⟨by have := hb.1; omega, hb.2⟩) (Nat.le_refl _)).allocR (.cells #[.int .i64 k, .int .u64 a, .int .u64 b, .int .u64 c, .int .u64 d, .string t, .slice A nn cp] 27)
                clear hE hr3 hbx2 hbx3 hg3 HP y12 e41 HG2
                go_upto_region 12 with fail
                generalize (w3.alloc (.cells #[.int .i64 k, .int .u64 a, .int .u64 b, .int .u64 c, .int .u64 d, .string t, .slice A nn cp] 27)) = w4 at hr4 hbx4 hg4 hx4 hE4 ⊢
                generalize w3.heap.size = xb at hx4 hs3 ⊢
                by_cases h41 : ∃ n1, tokL l2 = .sg 41 n1
                · obtain ⟨n1, ht1⟩ := h41
                  have hj := HJ.out
                  simp only [bindR] at hj
                  rw [cl_yes ht1] at hj
                  have hkn : tkn (tokL l2) = n1 := by rw [ht1]; rfl
                  have y12 : w4.cell? ⟨rb, 12, none⟩ = some (.int .u8 41) := (hr4.blk.cell 12).trans (by rw [rdC_get, ht1]; rfl)
                  have HGO := Lib.hid (HG1.out l2 w4 hr4)
                  unfold GoQ at HGO
                  rw [hkn] at HGO
                  unfold thenGo at hj
                  clear hkn ht1 HG1
                  generalize goL l2 n1 = lh at HGO hj
                  replace HJ := Lib.hid hj
                  clear hj
                  go_wp2_with fail
                  refine HGO.out.mono ?_
                  rintro e w5 ⟨hg5, ⟨hbad, rfl⟩ | ⟨hgood5, rfl, hr5⟩⟩
                  · skip
                    have hRe : Rs.no lh = R := by
                      have := HJ.out
                      rw [if_pos hbad] at this
                      exact Option.some.inj this
                    have HRE := Lib.hid hRe
                    clear hRe
                    go_wp2
                    exact ⟨rfl, HQ.out.2 _ _ HRE.out.symm (hg4.trans hg5)⟩
                  · have hj := HJ.out
                    rw [if_neg (by rw [hgood5]; decide)] at hj
                    have HRE : Hid (R = .ok x lh) := (Option.some.inj hj).symm
                    have hbx5 := hbx4.grown hg5 (fun e => by injection e with e; omega)
                    have hx5 := hx4.grown hg5 (fun e => by injection e with e; omega)
                    have x0 := hx5.cell 0
                    have x1 := hx5.cell 1
                    have x2 := hx5.cell 2
                    have x3 := hx5.cell 3
                    have x4 := hx5.cell 4
                    have x5 := hx5.cell 5
                    have x6 := hx5.cell 6
                    have HLX := Lib.hid (hE4.grownR (by omega) hg5)
                    have HG5 := Lib.hid (hg4.trans hg5)
                    have HR5 := Lib.hid hr5
                    clear hj HJ HGO hg4 hg5 hr4 hr5 hbx4 hx4 hx5 y12 hE4
                    have hob := (hbx5).lt
                    have yz0 : w5.cell? ⟨w.heap.size, 0, none⟩ = some (.int .i64 0) := hbx5.cell 0; have yz1 : w5.cell? ⟨w.heap.size, 1, none⟩ = some (.int .u64 0) := hbx5.cell 1; have yz2 : w5.cell? ⟨w.heap.size, 2, none⟩ = some (.int .u64 0) := hbx5.cell 2; have yz3 : w5.cell? ⟨w.heap.size, 3, none⟩ = some (.int .u64 0) := hbx5.cell 3; have yz4 : w5.cell? ⟨w.heap.size, 4, none⟩ = some (.int .u64 0) := hbx5.cell 4; have yz5 : w5.cell? ⟨w.heap.size, 5, none⟩ = some (.string ⟨#[]⟩) := hbx5.cell 5; have yz6 : w5.cell? ⟨w.heap.size, 6, none⟩ = some (.slice none 0 0) := hbx5.cell 6; have yf0 := hbx5.frozen 0; have yf1 := hbx5.frozen 1; have yf2 := hbx5.frozen 2; have yf3 := hbx5.frozen 3; have yf4 := hbx5.frozen 4; have yf5 := hbx5.frozen 5; have yf6 := hbx5.frozen 6; have ye0 : (w5.setCell ⟨w.heap.size, 0, none⟩ (.int .i64 k)).cell? ⟨w.heap.size, 0, none⟩ = some (.int .i64 k) := (hbx5.set_ 0 _).cell 0; have ye1 : ((w5.setCell ⟨w.heap.size, 0, none⟩ (.int .i64 k)).setCell ⟨w.heap.size, 1, none⟩ (.int .u64 a)).cell? ⟨w.heap.size, 1, none⟩ = some (.int .u64 a) := ((hbx5.set_ 0 _).set_ 1 _).cell 1; have ye2 : (((w5.setCell ⟨w.heap.size, 0, none⟩ (.int .i64 k)).setCell ⟨w.heap.size, 1, none⟩ (.int .u64 a)).setCell ⟨w.heap.size, 2, none⟩ (.int .u64 b)).cell? ⟨w.heap.size, 2, none⟩ = some (.int .u64 b) := (((hbx5.set_ 0 _).set_ 1 _).set_ 2 _).cell 2; have ye3 : ((((w5.setCell ⟨w.heap.size, 0, none⟩ (.int .i64 k)).setCell ⟨w.heap.size, 1, none⟩ (.int .u64 a)).setCell ⟨w.heap.size, 2, none⟩ (.int .u64 b)).setCell ⟨w.heap.size, 3, none⟩ (.int .u64 c)).cell? ⟨w.heap.size, 3, none⟩ = some (.int .u64 c) := ((((hbx5.set_ 0 _).set_ 1 _).set_ 2 _).set_ 3 _).cell 3; have ye4 : (((((w5.setCell ⟨w.heap.size, 0, none⟩ (.int .i64 k)).setCell ⟨w.heap.size, 1, none⟩ (.int .u64 a)).setCell ⟨w.heap.size, 2, none⟩ (.int .u64 b)).setCell ⟨w.heap.size, 3, none⟩ (.int .u64 c)).setCell ⟨w.heap.size, 4, none⟩ (.int .u64 d)).cell? ⟨w.heap.size, 4, none⟩ = some (.int .u64 d) := (((((hbx5.set_ 0 _).set_ 1 _).set_ 2 _).set_ 3 _).set_ 4 _).cell 4; have ye5 : ((((((w5.setCell ⟨w.heap.size, 0, none⟩ (.int .i64 k)).setCell ⟨w.heap.size, 1, none⟩ (.int .u64 a)).setCell ⟨w.heap.size, 2, none⟩ (.int .u64 b)).setCell ⟨w.heap.size, 3, none⟩ (.int .u64 c)).setCell ⟨w.heap.size, 4, none⟩ (.int .u64 d)).setCell ⟨w.heap.size, 5, none⟩ (.string t)).cell? ⟨w.heap.size, 5, none⟩ = some (.string t) := ((((((hbx5.set_ 0 _).set_ 1 _).set_ 2 _).set_ 3 _).set_ 4 _).set_ 5 _).cell 5; have ye6 : (((((((w5.setCell ⟨w.heap.size, 0, none⟩ (.int .i64 k)).setCell ⟨w.heap.size, 1, none⟩ (.int .u64 a)).setCell ⟨w.heap.size, 2, none⟩ (.int .u64 b)).setCell ⟨w.heap.size, 3, none⟩ (.int .u64 c)).setCell ⟨w.heap.size, 4, none⟩ (.int .u64 d)).setCell ⟨w.heap.size, 5, none⟩ (.string t)).setCell ⟨w.heap.size, 6, none⟩ (.slice A nn cp)).cell? ⟨w.heap.size, 6, none⟩ = some (.slice A nn cp) := (((((((hbx5.set_ 0 _).set_ 1 _).set_ 2 _).set_ 3 _).set_ 4 _).set_ 5 _).set_ 6 _).cell 6
                    go_wp2
                    exact bodyPost_ret (v := .agg #[.int .i64 k, .int .u64 a, .int .u64 b, .int .u64 c, .int .u64 d, .string t, .slice A nn cp]) (by simp [results, Tryd.results136, go_sem, ye0, ye1, ye2, ye3, ye4, ye5, ye6]) rfl (HQ.out.1 _ _ [.int .i64 k, .int .u64 a, .int .u64 b, .int .u64 c, .int .u64 d, .string t, .slice A nn cp] _ HRE.out (grown_set7 HG5.out (Nat.le_refl _) _ _ _ _ _ _ _) ((HLX.out).res7 (by omega) (by omega) _ _ _ _ _ _ _) ((HR5.out).set7 (by omega) _ _ _ _ _ _ _))
                · have hj := HJ.out
                  simp only [bindR] at hj
                  rw [cl_no (fun n e => h41 ⟨n, e⟩)] at hj
                  have HRE : Hid (R = .no l2) := (Option.some.inj hj).symm
                  have hs41 := sg_ne (l := l2) (c := 41) (fun n e => h41 ⟨n, e⟩) (by decide)
                  have y12 := hr4.blk.cell 12
                  have y2 := hr4.blk.cell 2
                  rw [rdC_get] at y12 y2
                  have e41 : (((tkV (tokL l2)).sg : Int) != 41) = true := by rw [bne_iff_ne]; omega
                  generalize (tkV (tokL l2)).sg = sgv at y12 e41
                  have HG4 := Lib.hid hg4
                  clear hs41 h41 hj HJ hr4 hbx4 hx4 hE4 hg4
                  go_wp2_with fail
                  refine (bad_any (posL s l2) _).mono ?_
                  rintro e w9 ⟨rfl, hw9⟩
                  subst w9
                  go_wp2
                  exact ⟨rfl, HQ.out.2 _ _ HRE.out HG4.out⟩
      · rw [pri_sg hb ht hc] at hj
        have HRE : Hid (R = .no l) := (Option.some.inj hj).symm
        have hcc : c = 38 ∨ c = 33 := by
          have : c = 40 ∨ c = 38 ∨ c = 33 := by
            unfold begL at hb
            rw [ht] at hb
            exact of_decide_eq_true hb
          exact this.resolve_left hc
        clear hj ht hc hb hra hr H
        rcases hcc with rfl | rfl
        all_goals
          go_enter Tryd.func136, Tryd.ntmps136
          go_wp2_with fail
          refine HBG.out.mono ?_
          have k2 := (World.cell?_alloc_lt w (.cells #[.int .i64 0, .int .u64 0, .int .u64 0, .int .u64 0, .int .u64 0, .string ⟨#[]⟩, .slice none 0 0] 27) ⟨rb, 2, none⟩ hold).trans hbk2
          have k12 := (World.cell?_alloc_lt w (.cells #[.int .i64 0, .int .u64 0, .int .u64 0, .int .u64 0, .int .u64 0, .string ⟨#[]⟩, .slice none 0 0] 27) ⟨rb, 12, none⟩ hold).trans hbk12
          generalize (w.alloc (.cells #[.int .i64 0, .int .u64 0, .int .u64 0, .int .u64 0, .int .u64 0, .string ⟨#[]⟩, .slice none 0 0] 27)) = wa at HBG HBX HG0 hz k2 k12 ⊢
          rintro e w1 ⟨rfl, hb1⟩
          have z2 := (hb1.cell (p := ⟨rb, 2, none⟩) (show rb < wa.heap.size by omega)).trans k2
          have z12 := (hb1.cell (p := ⟨rb, 12, none⟩) (show rb < wa.heap.size by omega)).trans k12
          have HG1 := Lib.hid (grownBel HG0.out hb1)
          clear hb1 HBG HBX HG0 k2 k12 hbk2 hbk4 hbk12
          go_wp2_with fail
          refine (bad_any (posL s l) _).mono ?_
          rintro e w9 ⟨rfl, hw9⟩
          subst w9
          go_wp2
          exact ⟨rfl, HQ.out.2 _ _ HRE.out HG1.out⟩
  · have hb' : begL h l = false := by simpa using hb
    rw [hb'] at HBG
    rw [pri_no hb'] at hj
    have HRE : Hid (R = .no l) := (Option.some.inj hj).symm
    have hbk2 : w.cell? ⟨rb, 2, none⟩ = some (.int .i64 (posL s l : Int)) := (hr.blk.cell 2)
    clear hj hb hb' hra hr H
    go_enter Tryd.func136, Tryd.ntmps136
    go_wp2_with fail
    refine HBG.out.mono ?_
    have k2 := (World.cell?_alloc_lt w (.cells #[.int .i64 0, .int .u64 0, .int .u64 0, .int .u64 0, .int .u64 0, .string ⟨#[]⟩, .slice none 0 0] 27) ⟨rb, 2, none⟩ hold).trans hbk2
    generalize (w.alloc (.cells #[.int .i64 0, .int .u64 0, .int .u64 0, .int .u64 0, .int .u64 0, .string ⟨#[]⟩, .slice none 0 0] 27)) = wa at HBG HBX HG0 hz k2 ⊢
    rintro e w1 ⟨rfl, hb1⟩
    have z2 := (hb1.cell (p := ⟨rb, 2, none⟩) (show rb < wa.heap.size by omega)).trans k2
    have HG1 := Lib.hid (grownBel HG0.out hb1)
    clear hb1 HBG HBX HG0 k2 hbk2
    go_wp2_with fail
    refine (bad_any (posL s l) _).mono ?_
    rintro e w9 ⟨rfl, hw9⟩
    subst w9
    go_wp2
    exact ⟨rfl, HQ.out.2 _ _ HRE.out HG1.out⟩
theorem does_all (s : ByteArray) (hs : s.size ≤ 100000) (h : Bool) (rb : Nat) : ∀ f, DoesR s h rb f
  | 0 => ⟨fun _ _ _ _ hj => (by cases hj), fun _ _ _ _ hj => (by cases hj), fun _ _ _ _ hj => (by cases hj), fun _ _ _ _ hj => (by cases hj)⟩
  | f + 1 =>
    have H := does_all s hs h rb f
    ⟨fun l R w hr hj => alt_any s hs h rb f H l R w hr hj, fun l R w hr hj => seqX_any s hs h rb f H l R w hr hj, fun l R w hr hj => pre_any s hs h rb f H l R w hr hj, fun l R w hr hj => pri_any s hs h rb f H l R w hr hj⟩
end Go.Proofs.YtndhbdbfjkmloaaDoor
