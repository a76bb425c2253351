/- show.Print, and the walk of the law ShowApart. -/
import Derived.Test.YtndhbdbfjkmloaaDoorPxX
namespace Go.Proofs.YtndhbdbfjkmloaaDoor
open Go.RowKit

/-- what Print answers -/
def prT (e : Ex) : List UInt8 := if checkE e = 0 then txE e else []
def PrQ (e : Ex) (w : World) (r : Ending) (w' : World) : Prop := r = .returned (.tuple #[.string ⟨(prT e).toArray⟩, .int .i64 (checkE e)]) ∧ Below w.heap.size w w'
set_option maxRecDepth 100000 in
set_option maxHeartbeats 4000000 in
theorem print_any (e : Ex) (hw : WfE e) (k a b c d : Int) (t : ByteArray) (ks : List Ex) (A : Option Addr) (cp : Nat) (w : World) (he : e = .mk k a b c d t ks) (hx : ExIs w w.heap.size e (exCells k a b c d t A ks.length cp)) (hTab : TabAt w) :
    Calls Tryd.prog 12 #[.agg #[.int .i64 k, .int .u64 a, .int .u64 b, .int .u64 c, .int .u64 d, .string t, .slice A ks.length cp]] w (PrQ e w) := by
  have hbx : Blk (w.alloc (.cells #[.int .i64 k, .int .u64 a, .int .u64 b, .int .u64 c, .int .u64 d, .string t, .slice A ks.length cp] 27)) w.heap.size 27 #[.int .i64 k, .int .u64 a, .int .u64 b, .int .u64 c, .int .u64 d, .string t, .slice A ks.length cp] := blk_at rfl
  have hbw : Below w.heap.size w (w.alloc (.cells #[.int .i64 k, .int .u64 a, .int .u64 b, .int .u64 c, .int .u64 d, .string t, .slice A ks.length cp] 27)) := (by repeat (first | exact Below.refl _ _ | assumption | refine Below.drew ?_ | refine below_drewN ?_ _ | refine Below.alloc ?_ (by first | omega | (simp; omega) | simp) _ | refine Below.setCell ?_ (by first | omega | (simp; omega) | simp) _))
  have HCK := Lib.hid (fun W (hW : Below w.heap.size w W) => check_expr e _ W (hx.grow hW))
  have hpos := hTab.pos
  by_cases h0 : checkE e = 0
  · have HTX := Lib.hid (fun W (hW : Below w.heap.size w W) => text_any e (rt_of hw h0) (nodes_le h0) k a b c d t ks A cp W he (hx.grow hW) (hTab.below hW hpos))
    have HQ : Hid (∀ w', Below w.heap.size w w' → PrQ e w (.returned (.tuple #[.string ⟨(txE e).toArray⟩, .int .i64 0])) w') := fun w' hb => ⟨by unfold prT; rw [if_pos h0, h0], hb⟩
    rw [h0] at HCK
    unfold exCells at HCK
    generalize PrQ e w = Q at HQ ⊢
    generalize txE e = T at HTX HQ
    clear he hx h0 hw
    go_enter Tryd.func12, Tryd.ntmps12
    go_wp2_with fail
    refine (HCK.out _ hbw).mono ?_
    rintro r w1 ⟨rfl, hb1'⟩
    have hb1 := hbw.trans (hb1'.mono hbw.size)
    have hbx1 := hbx.below hb1' (by simp)
    have x0 := hbx1.cell 0
    have x1 := hbx1.cell 1
    have x2 := hbx1.cell 2
    have x3 := hbx1.cell 3
    have x4 := hbx1.cell 4
    have x5 := hbx1.cell 5
    have x6 := hbx1.cell 6
    clear hb1' hbx hbx1
    go_wp2_with fail
    refine (HTX.out _ hb1).mono ?_
    rintro r w2 ⟨rfl, hb2⟩
    go_wp2
    exact HQ.out _ (hb1.trans (hb2.mono hb1.size))
  · have HQ : Hid (∀ w', Below w.heap.size w w' → PrQ e w (.returned (.tuple #[.string ⟨#[]⟩, .int .i64 (checkE e)])) w') := fun w' hb => ⟨by unfold prT; rw [if_neg h0], hb⟩
    unfold exCells at HCK
    generalize PrQ e w = Q at HQ ⊢
    generalize checkE e = x at HCK HQ h0
    have hx0 : (x != 0) = true := by rw [bne_iff_ne]; exact h0
    clear he hx h0 hw
    go_enter Tryd.func12, Tryd.ntmps12
    go_wp2_with fail
    refine (HCK.out _ hbw).mono ?_
    rintro r w1 ⟨rfl, hb1'⟩
    have hb1 := hbw.trans (hb1'.mono hbw.size)
    go_wp2
    exact HQ.out _ hb1
def refA : Ex := .mk 4 0 0 0 0 ⟨#[97]⟩ []
theorem refA_check : checkE refA = 0 := by decide +kernel
theorem refA_wf : WfE refA := .mk _ _ _ _ _ _ _ (by unfold I64; omega) (by unfold U64; omega) (by unfold U64; omega) (by unfold U64; omega) (by unfold U64; omega) (fun e he => by cases he)
theorem refA_text : prT refA = [97] := by decide +kernel
set_option maxRecDepth 100000 in
set_option maxHeartbeats 4000000 in
theorem walk_ShowApart (e f : Ex) (ce cf : List Value) (w : World) (he : ExIs w w.heap.size e ce) (hf : ExIs w w.heap.size f cf) (we : WfE e) (wf : WfE f) (hTab : TabAt w) :
    Calls Tryd.prog 3 #[.agg ce.toArray, .agg cf.toArray] w fun r w' => r = .returned (.bool true) ∧ Below w.heap.size w w' := by
  obtain ⟨k, a, b, c, d, t, ks, A, cp, rfl, rfl⟩ : ∃ k a b c d t ks A cp, e = .mk k a b c d t ks ∧ ce = exCells k a b c d t A ks.length cp := by
    cases he with
    | mk k a b c d t ks A cp => exact ⟨k, a, b, c, d, t, ks, A, cp, rfl, rfl⟩
  obtain ⟨k2, a2, b2, c2, d2, t2, ks2, A2, cp2, rfl, rfl⟩ : ∃ k a b c d t ks A cp, f = .mk k a b c d t ks ∧ cf = exCells k a b c d t A ks.length cp := by
    cases hf with
    | mk k a b c d t ks A cp => exact ⟨k, a, b, c, d, t, ks, A, cp, rfl, rfl⟩
  have hpos := hTab.pos
  have H0 := Lib.hid (fun W (hW : Below w.heap.size w W) => print_any refA refA_wf 4 0 0 0 0 ⟨#[97]⟩ [] none 0 W rfl (refE_is W ⟨#[97]⟩ (by decide)) (hTab.below hW hpos))
  have H1 := Lib.hid (fun W (hW : Below w.heap.size w W) => print_any (.mk k a b c d t ks) we k a b c d t ks A cp W rfl (he.grow hW) (hTab.below hW hpos))
  have H2 := Lib.hid (fun W (hW : Below w.heap.size w W) => print_any (.mk k2 a2 b2 c2 d2 t2 ks2) wf k2 a2 b2 c2 d2 t2 ks2 A2 cp2 W rfl (hf.grow hW) (hTab.below hW hpos))
  unfold exCells
  go_enter Tryd.func3, Tryd.ntmps3
  have hz0 : ((w.alloc (.cells #[.int .i64 k, .int .u64 a, .int .u64 b, .int .u64 c, .int .u64 d, .string t, .slice A ks.length cp] 27)).alloc (.cells #[.int .i64 k2, .int .u64 a2, .int .u64 b2, .int .u64 c2, .int .u64 d2, .string t2, .slice A2 ks2.length cp2] 27)).heap.size = w.heap.size + 1 + 1 := by simp
  have hbe : Blk ((w.alloc (.cells #[.int .i64 k, .int .u64 a, .int .u64 b, .int .u64 c, .int .u64 d, .string t, .slice A ks.length cp] 27)).alloc (.cells #[.int .i64 k2, .int .u64 a2, .int .u64 b2, .int .u64 c2, .int .u64 d2, .string t2, .slice A2 ks2.length cp2] 27)) w.heap.size 27 #[.int .i64 k, .int .u64 a, .int .u64 b, .int .u64 c, .int .u64 d, .string t, .slice A ks.length cp] := (blk_at rfl).alloc _
  have hbf : Blk ((w.alloc (.cells #[.int .i64 k, .int .u64 a, .int .u64 b, .int .u64 c, .int .u64 d, .string t, .slice A ks.length cp] 27)).alloc (.cells #[.int .i64 k2, .int .u64 a2, .int .u64 b2, .int .u64 c2, .int .u64 d2, .string t2, .slice A2 ks2.length cp2] 27)) (w.heap.size + 1) 27 #[.int .i64 k2, .int .u64 a2, .int .u64 b2, .int .u64 c2, .int .u64 d2, .string t2, .slice A2 ks2.length cp2] := blk_at (by simp)
  have hb0 : Below w.heap.size w ((w.alloc (.cells #[.int .i64 k, .int .u64 a, .int .u64 b, .int .u64 c, .int .u64 d, .string t, .slice A ks.length cp] 27)).alloc (.cells #[.int .i64 k2, .int .u64 a2, .int .u64 b2, .int .u64 c2, .int .u64 d2, .string t2, .slice A2 ks2.length cp2] 27)) := ((Below.refl _ _).alloc (Nat.le_refl _) _).alloc (by simp) _
  go_wp2_with fail
  refine (H0.out _ hb0).mono ?_
  rintro r w1 ⟨h, hb1'⟩
  rw [refA_text, refA_check] at h
  subst h
  have hb1 := hb0.trans (hb1'.mono (by omega))
  have hbe1 := hbe.below hb1' (by omega)
  have hbf1 := hbf.below hb1' (by omega)
  have hs1 := hb1'.size
  rw [hz0] at hs1
  have x0 := hbe1.cell 0
  have x1 := hbe1.cell 1
  have x2 := hbe1.cell 2
  have x3 := hbe1.cell 3
  have x4 := hbe1.cell 4
  have x5 := hbe1.cell 5
  have x6 := hbe1.cell 6
  clear hb1' hbe hbf hz0 hb0
  go_wp2_with fail
  refine (H1.out _ hb1).mono ?_
  rintro r w2 ⟨rfl, hb2'⟩
  have hb2 := hb1.trans (hb2'.mono (by omega))
  have hbe2 := hbe1.below hb2' (by omega)
  have hbf2 := hbf1.below hb2' (by omega)
  have hs2 := hb2'.size
  have y0 := hbf2.cell 0
  have y1 := hbf2.cell 1
  have y2 := hbf2.cell 2
  have y3 := hbf2.cell 3
  have y4 := hbf2.cell 4
  have y5 := hbf2.cell 5
  have y6 := hbf2.cell 6
  clear hb2' hbe1 hbf1 x0 x1 x2 x3 x4 x5 x6
  go_wp2_with fail
  refine (H2.out _ hb2).mono ?_
  rintro r w3 ⟨rfl, hb3'⟩
  have hb3 := hb2.trans (hb3'.mono (by omega))
  have hbe3 := hbe2.below hb3' (by omega)
  have hbf3 := hbf2.below hb3' (by omega)
  have HSX := Lib.hid (samex_any (.mk k a b c d t ks) _ _ _ w3 (he.grow hb3) (hf.grow hb3))
  have x0 := hbe3.cell 0
  have x1 := hbe3.cell 1
  have x2 := hbe3.cell 2
  have x3 := hbe3.cell 3
  have x4 := hbe3.cell 4
  have x5 := hbe3.cell 5
  have x6 := hbe3.cell 6
  have z0 := hbf3.cell 0
  have z1 := hbf3.cell 1
  have z2 := hbf3.cell 2
  have z3 := hbf3.cell 3
  have z4 := hbf3.cell 4
  have z5 := hbf3.cell 5
  have z6 := hbf3.cell 6
  clear hb3' hbe2 hbf2 y0 y1 y2 y3 y4 y5 y6 H0 H1 H2
  have HEQ : Hid (checkE (.mk k a b c d t ks) = 0 → checkE (.mk k2 a2 b2 c2 d2 t2 ks2) = 0 → ((⟨(prT (.mk k a b c d t ks)).toArray⟩ : ByteArray) = ⟨(prT (.mk k2 a2 b2 c2 d2 t2 ks2)).toArray⟩ ↔ (Ex.mk k a b c d t ks) = .mk k2 a2 b2 c2 d2 t2 ks2)) := fun h1 h2 => by
    unfold prT
    rw [if_pos h1, if_pos h2]
    refine ⟨fun h => tx_inj (rt_of we h1) (rt_of wf h2) ?_, fun h => by rw [h]⟩
    injection h with h
    have := congrArg Array.toList h
    simpa using this
  unfold exCells at HSX
  generalize (⟨(prT (.mk k a b c d t ks)).toArray⟩ : ByteArray) = S at HEQ ⊢
  generalize (⟨(prT (.mk k2 a2 b2 c2 d2 t2 ks2)).toArray⟩ : ByteArray) = S2 at HEQ ⊢
  generalize checkE (.mk k a b c d t ks) = cx at HEQ ⊢
  generalize checkE (.mk k2 a2 b2 c2 d2 t2 ks2) = cy at HEQ ⊢
  have HSM : Hid (cx = 0 → cy = 0 → (S.toList == S2.toList) = isB (Ex.mk k a b c d t ks = .mk k2 a2 b2 c2 d2 t2 ks2)) := fun h1 h2 => by
    rw [Bool.eq_iff_iff, isB_iff, beq_iff_eq, ByteArray.toList_eq, ByteArray.toList_eq, ← HEQ.out h1 h2]
    exact ⟨bytes_eq, fun h => by rw [h]⟩
  generalize isB (Ex.mk k a b c d t ks = .mk k2 a2 b2 c2 d2 t2 ks2) = sm at HSX HSM
  clear he hf we wf
  by_cases h1 : cx = 0
  · by_cases h2 : cy = 0
    · subst h1 h2
      have hsm := HSM.out rfl rfl
      go_wp2_with fail
      refine HSX.out.mono ?_
      rintro r w4 ⟨rfl, hb4⟩
      have hsb : (sm == sm) = true := beq_self_eq_true sm
      go_wp2
      go_ret
      exact ⟨rfl, hb3.trans (hb4.mono hb3.size)⟩
    · have hc2 : (cy != 0) = true := by rw [bne_iff_ne]; exact h2
      subst h1
      go_wp2
      go_ret
      exact ⟨rfl, hb3⟩
  · have hc1 : (cx != 0) = true := by rw [bne_iff_ne]; exact h1
    go_wp2
    go_ret
    exact ⟨rfl, hb3⟩
end Go.Proofs.YtndhbdbfjkmloaaDoor
