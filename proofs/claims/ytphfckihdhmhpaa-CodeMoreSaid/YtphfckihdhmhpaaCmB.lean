/- The machine of package code: back. -/
import Derived.Test.YtphfckihdhmhpaaCmF
namespace Go.Proofs.Ytphfckihdhmhpaa
open Go.RowKit

def inV (x : In) : Value := .agg #[.int .i64 x.op, .int .i64 x.n, .int .u64 (x.a : Int), .int .u64 (x.b : Int), .int .u64 (x.c : Int), .int .u64 (x.d : Int)]
/-- what an instruction leaves -/
def OneQ (mb : Nat) (s : ByteArray) (o : Except Int MS) (w : World) (e : Ending) (w' : World) : Prop :=
  ((∃ m, o = .ok m ∧ e = .returned (.tuple #[.bool true, .int .i64 0]) ∧ Mach w' mb s m) ∨ (∃ z b, o = .error z ∧ e = .returned (.tuple #[.bool b, .int .i64 z]) ∧ (z = 0 → b = false))) ∧ Below mb w w'
theorem Mach.alloc {w : World} {mb : Nat} {s : ByteArray} {m : MS} (h : Mach w mb s m) (o : Obj) : Mach (w.alloc o) mb s m := h.below ((Below.refl _ _).alloc (Nat.le_refl _) _)
theorem Mach.lt {w : World} {mb : Nat} {s : ByteArray} {m : MS} (h : Mach w mb s m) : mb < w.heap.size := by
  obtain ⟨V, cp, hb, ho⟩ := h
  exact hb.lt
theorem failM_err {st : List (Nat × Int)} {z : Int} (h : failM st = .error z) : z = 0 := by
  unfold failM at h
  cases hf : failL st with
  | none => rw [hf] at h; injection h with h; exact h.symm
  | some x => rw [hf] at h; cases h

set_option maxHeartbeats 8000000 in
set_option maxRecDepth 100000 in
theorem back_any {w : World} {mb : Nat} {s : ByteArray} {pc at_ : Nat} {st : List (Nat × Int)} (op : Int) (n a b c d : Nat) (h : Mach w mb s ⟨pc, at_, st⟩) (hl : st.length ≤ 10000) :
    Calls Try.prog 100 #[.pointer (some ⟨mb, 0, none⟩), .agg #[.int .i64 op, .int .i64 (n : Int), .int .u64 (a : Int), .int .u64 (b : Int), .int .u64 (c : Int), .int .u64 (d : Int)]] w (OneQ mb s (backM ⟨op, n, a, b, c, d⟩ pc at_ st) w) := by
  obtain ⟨o, ho⟩ : ∃ o, o = backM ⟨op, n, a, b, c, d⟩ pc at_ st := ⟨_, rfl⟩
  rw [← ho]
  have HO := Lib.hid ho
  clear ho
  have hmb := h.lt
  have hx0 : Blk (w.alloc (.cells #[.int .i64 op, .int .i64 (n : Int), .int .u64 (a : Int), .int .u64 (b : Int), .int .u64 (c : Int), .int .u64 (d : Int)] 89)) w.heap.size 89 #[.int .i64 op, .int .i64 (n : Int), .int .u64 (a : Int), .int .u64 (b : Int), .int .u64 (c : Int), .int .u64 (d : Int)] := blk_at rfl
  have HM := Lib.hid (h.alloc (.cells #[.int .i64 op, .int .i64 (n : Int), .int .u64 (a : Int), .int .u64 (b : Int), .int .u64 (c : Int), .int .u64 (d : Int)] 89))
  have hbw : Below mb w (w.alloc (.cells #[.int .i64 op, .int .i64 (n : Int), .int .u64 (a : Int), .int .u64 (b : Int), .int .u64 (c : Int), .int .u64 (d : Int)] 89)) := (by repeat (first | exact Below.refl _ _ | assumption | refine Below.drew ?_ | refine below_drewN ?_ _ | refine Below.alloc ?_ (by first | omega | (simp; omega) | simp) _ | refine Below.setCell ?_ (by first | omega | (simp; omega) | simp) _))
  have hsz : w.heap.size < (w.alloc (.cells #[.int .i64 op, .int .i64 (n : Int), .int .u64 (a : Int), .int .u64 (b : Int), .int .u64 (c : Int), .int .u64 (d : Int)] 89)).heap.size := by simp
  clear h
  have hcall : ∃ cl, (op == 6) = cl ∧ decide (op = 6) = cl := ⟨op == 6, rfl, by rw [Bool.eq_iff_iff]; simp⟩
  obtain ⟨cl, hcl, hcd⟩ := hcall
  have HCD := Lib.hid hcd
  clear hcd
  have HC := Lib.hid (pop_any HM.out hl cl)
  go_enter Try.func100, Try.ntmps100
  go_wp2_with fail
  refine (HC.out).mono ?_
  generalize (w.alloc (.cells #[.int .i64 op, .int .i64 (n : Int), .int .u64 (a : Int), .int .u64 (b : Int), .int .u64 (c : Int), .int .u64 (d : Int)] 89)) = w1 at hx0 HM hbw hsz HC ⊢
  rintro e w2 ⟨⟨hno, rfl⟩ | ⟨p, q, r, hst, hdc, rfl, hM⟩, hg⟩
  · have hlo := (gone_below hg (Nat.le_of_lt HM.out.lt)).size
    have HBK : Hid (o = .error 13) := by
      show _ = _
      rw [HO.out]
      cases st with
      | nil => rfl
      | cons x r =>
        obtain ⟨p, q⟩ := x
        have := hno p q r rfl
        unfold backM
        dsimp only
        rw [HCD.out, if_neg this]
    have HBW : Hid (Below mb w w2) := hbw.trans (gone_below hg (Nat.le_of_lt HM.out.lt))
    have hmb2 := Nat.lt_of_lt_of_le HM.out.lt hg.size
    clear hno hg
    go_wp2
    exact bodyPost_ret (v := .tuple #[.bool false, .int .i64 13]) (by simp [results, Try.results100, go_sem]) rfl ⟨.inr ⟨13, false, HBK.out, rfl, fun h => absurd h (by decide)⟩, HBW.out.alloc (by omega) _⟩
  · replace hst : st = (p, q) :: r := hst
    replace hM : Mach w2 mb s ⟨pc, at_, r⟩ := hM
    have hx := hx0.grown hg (fun e => by injection e with e; omega)
    have hlt2 := hM.lt
    have hbw2 : Below mb w w2 := hbw.trans (gone_below hg (by have := HM.out.lt; omega))
    have hsz2 : w.heap.size < w2.heap.size := Nat.lt_of_lt_of_le hsz hg.size
    have HBK : Hid (o = if op = 6 then .ok ⟨p, at_, r⟩ else if op = 4 then .ok ⟨n, at_, r⟩ else if op = 9 then .ok ⟨n, at_, (p, at_) :: r⟩ else if op = 10 then .ok ⟨n, q.toNat, r⟩ else if op = 11 then failM r else .ok ⟨pc, at_, r⟩) := by
      show _ = _
      rw [HO.out, hst]
      unfold backM
      dsimp only
      rw [HCD.out, if_pos hdc]
      rfl
    have hlr : r.length < 10000 := by rw [hst] at hl; simp at hl; omega
    have hq0 : op ≠ 6 → 0 ≤ q := fun h => by
      have h1 : cl = false := by rw [← hcl, beq_eq_false_iff_ne]; exact h
      rw [h1] at hdc
      have := of_decide_eq_false hdc
      omega
    clear HO HC HM hx0 hg hdc hst hl hsz HCD
    have hm : Mach w2 mb s ⟨pc, at_, r⟩ := hM
    obtain ⟨V, cp, hb, ho⟩ := hM
    have y1 : w2.cell? ⟨mb, 1, none⟩ = some (.int .i64 (pc : Int)) := hb.cell 1
    have y2 : w2.cell? ⟨mb, 2, none⟩ = some (.int .i64 (at_ : Int)) := hb.cell 2
    have y3 : w2.cell? ⟨mb, 3, none⟩ = some (.slice V r.length cp) := hb.cell 3
    have f1 := hb.frozen 1
    have f2 := hb.frozen 2
    have f3 := hb.frozen 3
    have x0 : w2.cell? ⟨w.heap.size, 0, none⟩ = some (.int .i64 op) := hx.cell 0
    have x1 : w2.cell? ⟨w.heap.size, 1, none⟩ = some (.int .i64 (n : Int)) := hx.cell 1
    have HMM := Lib.hid hm
    have HO := Lib.hid ho
    have HB := Lib.hid hb
    have HW := Lib.hid hbw2
    clear hm hb ho hx hbw2 hbw
    by_cases h6 : op = 6
    · subst h6
      rw [if_pos rfl] at HBK
      clear hcl hq0
      go_wp2
      exact bodyPost_ret (v := .tuple #[.bool true, .int .i64 0]) (by simp [results, Try.results100, go_sem]) rfl ⟨.inl ⟨_, HBK.out, rfl, by first | exact (HMM.out.setPc p).alloc _ | exact (HMM.out.alloc _).setPc p⟩, by first | exact (HW.out.setCell (by simp) _).alloc (by simp; omega) _ | exact (HW.out.alloc (by omega) _).setCell (by simp) _⟩
    rw [if_neg h6] at HBK
    obtain ⟨q, rfl⟩ : ∃ z : Nat, q = (z : Int) := ⟨q.toNat, by have := hq0 h6; omega⟩
    have k6 : (op == 6) = false := by rw [beq_eq_false_iff_ne]; exact h6
    clear hq0 hcl h6
    by_cases h4 : op = 4
    · subst h4
      rw [if_pos rfl] at HBK
      clear k6
      go_wp2
      exact bodyPost_ret (v := .tuple #[.bool true, .int .i64 0]) (by simp [results, Try.results100, go_sem]) rfl ⟨.inl ⟨_, HBK.out, rfl, by first | exact (HMM.out.setPc n).alloc _ | exact (HMM.out.alloc _).setPc n⟩, by first | exact (HW.out.setCell (by simp) _).alloc (by simp; omega) _ | exact (HW.out.alloc (by omega) _).setCell (by simp) _⟩
    rw [if_neg h4] at HBK
    have k4 : (op == 4) = false := by rw [beq_eq_false_iff_ne]; exact h4
    clear h4
    by_cases h9 : op = 9
    · subst h9
      rw [if_pos rfl] at HBK
      obtain ⟨i0, hi0, hz0, hz1, hz2⟩ := info_parts entry_info
      have HS := Lib.hid (stkC_cons (p, (at_ : Int)) r)
      have hO1 : ((w2.setCell ⟨mb, 1, none⟩ (.int .i64 (n : Int))).alloc (.cells #[.int .i64 (p : Int), .int .i64 (q : Int)] 185)).ownsRow (mb + 1) 185 2 (.slice V r.length cp) r.length (stkC r) := (HO.out.kept (grown_field mb 1 _) (.inr (own_not HO.out (by omega)))).alloc _
      have hB1 := (HB.out.set_ 1 (.int .i64 (n : Int))).alloc (.cells #[.int .i64 (p : Int), .int .i64 (q : Int)] 185)
      have hX1 : Blk ((w2.setCell ⟨mb, 1, none⟩ (.int .i64 (n : Int))).alloc (.cells #[.int .i64 (p : Int), .int .i64 (q : Int)] 185)) w2.heap.size 185 #[.int .i64 (p : Int), .int .i64 (q : Int)] := blk_at (by simp)
      have hW1 : Below mb w ((w2.setCell ⟨mb, 1, none⟩ (.int .i64 (n : Int))).alloc (.cells #[.int .i64 (p : Int), .int .i64 (q : Int)] 185)) := (HW.out.setCell (by simp) _).alloc (by simp; omega) _
      have hsz1 : w2.heap.size < ((w2.setCell ⟨mb, 1, none⟩ (.int .i64 (n : Int))).alloc (.cells #[.int .i64 (p : Int), .int .i64 (q : Int)] 185)).heap.size := by simp
      go_upto_region 11 with fail
      generalize ((w2.setCell ⟨mb, 1, none⟩ (.int .i64 (n : Int))).alloc (.cells #[.int .i64 (p : Int), .int .i64 (q : Int)] 185)) = W1 at hO1 hB1 hX1 hW1 hsz1 ⊢
      clear x0 x1 y1 y2 y3 f1 f2 f3
      have hB1 : Blk W1 mb 135 #[.string s, .int .i64 (n : Int), .int .i64 (at_ : Int), .slice V r.length cp] := hB1
      have v0 : W1.cell? ⟨w2.heap.size, 0, none⟩ = some (.int .i64 (p : Int)) := hX1.cell 0
      have c2 : W1.cell? ⟨mb, 2, none⟩ = some (.int .i64 (at_ : Int)) := hB1.cell 2
      have c3 : W1.cell? ⟨mb, 3, none⟩ = some (.slice V r.length cp) := hB1.cell 3
      have hlt1 := hB1.lt
      have HO1 := Lib.hid hO1
      have HB1 := Lib.hid hB1
      have HW1 := Lib.hid hW1
      clear hB1 hX1 hW1 hO1
      go_region_law (refine step_append_row rfl (.tmp 45) (.tmp 53) 133 rfl (mb + 1) 185 i0 _ 2 16 Try.underlying133 hi0 hz0 hz1 hz2 rfl (by decide) (.slice V r.length cp) r.length _ (by simp [Act.eval]) (HO1.out.alloc _) ⟨W1.heap.size, 0, none⟩ 1 1 [.int .i64 (p : Int), .int .i64 (at_ : Int)] (by simp [Act.eval]) rfl (new_row _ _ _) (by simp [Value.oneCell']) (by unfold maxLen; omega) (by omega) (by simp; omega) ?_; intro v' w4 hown4 hgr4; obtain ⟨gg, cap', rfl⟩ := Joins.ownsRow_form hown4 (by omega); have hB4 := ((HB1.out.alloc (.cells #[.int .i64 (p : Int), .int .i64 (at_ : Int)] 185)).drew).grown hgr4 (fun e => own_not HO1.out (by omega) e.symm); have f4 := hB4.frozen 3; have s4 := hB4.cell 3)
      all_goals
        have hG4 : W1.grownBy w4 (Value.slice V r.length cp).ownBlock := grown_behind hgr4
        have hW4 : Below mb w w4 := below_app HW1.out HO1.out hG4 (by omega) (by omega)
        have hM5 : Mach (w4.setCell ⟨mb, 3, none⟩ (.slice (some ⟨gg, 0, none⟩) (r.length + 1) cap')) mb s ⟨n, at_, (p, (at_ : Int)) :: r⟩ := by
          refine ⟨_, _, hB4.set_ 3 _, ?_⟩
          dsimp only
          rw [HS.out]
          exact hown4.kept (grown_field mb 3 _) (.inr (own_not hown4 (by omega)))
        go_wp2
        exact bodyPost_ret (v := .tuple #[.bool true, .int .i64 0]) (by simp [results, Try.results100, go_sem]) rfl ⟨.inl ⟨_, HBK.out, rfl, hM5⟩, hW4.setCell (by simp) _⟩
    rw [if_neg h9] at HBK
    have k9 : (op == 9) = false := by rw [beq_eq_false_iff_ne]; exact h9
    clear h9
    by_cases h10 : op = 10
    · subst h10
      rw [if_pos rfl] at HBK
      have HA := Lib.hid ((HMM.out.alloc (.cells #[.int .i64 (p : Int), .int .i64 (q : Int)] 185)))
      have hB1 := HB.out.alloc (.cells #[.int .i64 (p : Int), .int .i64 (q : Int)] 185)
      have hX1 : Blk (w2.alloc (.cells #[.int .i64 (p : Int), .int .i64 (q : Int)] 185)) w2.heap.size 185 #[.int .i64 (p : Int), .int .i64 (q : Int)] := blk_at rfl
      have hx1 := x1
      have hW1 : Below mb w (w2.alloc (.cells #[.int .i64 (p : Int), .int .i64 (q : Int)] 185)) := HW.out.alloc (by omega) _
      have hn1 : (w2.alloc (.cells #[.int .i64 (p : Int), .int .i64 (q : Int)] 185)).cell? ⟨w.heap.size, 1, none⟩ = some (.int .i64 (n : Int)) := (World.cell?_of_block (Below.heap_alloc w2 _ _ hsz2)).trans hx1
      clear hx1 x1 y1 y2 y3 f1 f2 f3
      go_upto_region 13 with fail
      generalize (w2.alloc (.cells #[.int .i64 (p : Int), .int .i64 (q : Int)] 185)) = W1 at HA hB1 hX1 hW1 hn1 ⊢
      have hB1 : Blk W1 mb 135 #[.string s, .int .i64 (pc : Int), .int .i64 (at_ : Int), .slice V r.length cp] := hB1
      have v1 : W1.cell? ⟨w2.heap.size, 1, none⟩ = some (.int .i64 (q : Int)) := hX1.cell 1
      have c1 : W1.cell? ⟨mb, 1, none⟩ = some (.int .i64 (pc : Int)) := hB1.cell 1
      have c2 : W1.cell? ⟨mb, 2, none⟩ = some (.int .i64 (at_ : Int)) := hB1.cell 2
      have c3 : (W1.setCell ⟨mb, 1, none⟩ (.int .i64 (n : Int))).cell? ⟨mb, 2, none⟩ = some (.int .i64 (at_ : Int)) := (hB1.set_ 1 _).cell 2
      have c4 : (W1.setCell ⟨mb, 2, none⟩ (.int .i64 (q : Int))).cell? ⟨mb, 1, none⟩ = some (.int .i64 (pc : Int)) := (hB1.set_ 2 _).cell 1
      have g1 := hB1.frozen 1
      have g2 := hB1.frozen 2
      have g4 := (hB1.set_ 1 (.int .i64 (n : Int))).frozen 2
      have g5 := (hB1.set_ 2 (.int .i64 (q : Int))).frozen 1
      have hlt1 := hB1.lt
      have hne1 : mb ≠ w2.heap.size := by omega
      have hne2 : mb ≠ w.heap.size := by omega
      have HW1 := Lib.hid hW1
      clear hB1 hX1 hW1
      go_region
      all_goals
        go_wp2
        exact bodyPost_ret (v := .tuple #[.bool true, .int .i64 0]) (by simp [results, Try.results100, go_sem]) rfl ⟨.inl ⟨_, HBK.out, rfl, by first | exact (HA.out.setPc n).setAt q | exact (HA.out.setAt q).setPc n⟩, by first | exact (HW1.out.setCell (Nat.le_refl _) _).setCell (Nat.le_refl _) _ | exact below_drewN ((HW1.out.setCell (Nat.le_refl _) _).setCell (Nat.le_refl _) _) 1 | exact Below.drew ((HW1.out.setCell (Nat.le_refl _) _).setCell (Nat.le_refl _) _)⟩
    rw [if_neg h10] at HBK
    have k10 : (op == 10) = false := by rw [beq_eq_false_iff_ne]; exact h10
    clear h10
    by_cases h11 : op = 11
    · subst h11
      rw [if_pos rfl] at HBK
      have HFF := Lib.hid (fail_any (HMM.out.alloc (.cells #[.int .i64 (p : Int), .int .i64 (q : Int)] 185)) (by omega : r.length ≤ 10000))
      go_wp2_with fail
      refine (HFF.out).mono ?_
      rintro e w3 ⟨⟨hf, rfl⟩ | ⟨m, hf, rfl, hm⟩, hbl⟩
      · have HF := Lib.hid hf
        have HBL := Lib.hid hbl
        clear hf hbl
        go_wp2
        exact bodyPost_ret (v := .tuple #[.bool false, .int .i64 0]) (by simp [results, Try.results100, go_sem]) rfl ⟨.inr ⟨0, false, HBK.out.trans HF.out, rfl, fun _ => rfl⟩, (HW.out.alloc (by omega) _).trans HBL.out⟩
      · have HF := Lib.hid hf
        have HBL := Lib.hid hbl
        have HM3 := Lib.hid hm
        clear hf hbl hm
        go_wp2
        exact bodyPost_ret (v := .tuple #[.bool true, .int .i64 0]) (by simp [results, Try.results100, go_sem]) rfl ⟨.inl ⟨_, HBK.out.trans HF.out, rfl, HM3.out⟩, (HW.out.alloc (by omega) _).trans HBL.out⟩
    rw [if_neg h11] at HBK
    have k11 : (op == 11) = false := by rw [beq_eq_false_iff_ne]; exact h11
    clear h11
    go_wp2
    exact bodyPost_ret (v := .tuple #[.bool true, .int .i64 0]) (by simp [results, Try.results100, go_sem]) rfl ⟨.inl ⟨_, HBK.out, rfl, HMM.out.alloc _⟩, HW.out.alloc (by omega) _⟩
end Go.Proofs.Ytphfckihdhmhpaa
