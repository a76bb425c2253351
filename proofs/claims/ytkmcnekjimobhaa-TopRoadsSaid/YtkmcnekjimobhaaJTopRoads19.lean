/- The machine of package code: fail. The machine of package code: back. The machine of package code: one instruction. -/
import Derived.Test.YtkmcnekjimobhaaJTopRoads18
import Derived.Test.YtkmcnekjimobhaaJTopRoads1
import Derived.Test.YtkmcnekjimobhaaJTopRoads0
namespace Go.Proofs.Ytkmcnekjimobhaa
set_option maxHeartbeats 8000000
set_option maxRecDepth 100000
open Go.RowKit
def stN (w : World) (mb : Nat) : Nat := match w.cell? ⟨mb, 3, none⟩ with | some (.slice _ n _) => n | _ => 0
theorem Mach.stN {w : World} {mb : Nat} {s : ByteArray} {m : MS} (h : Mach w mb s m) : stN w mb = m.st.length := by
  obtain ⟨V, cp, hb, ho⟩ := h
  have y3 : w.cell? ⟨mb, 3, none⟩ = some (.slice V m.st.length cp) := hb.cell 3
  unfold Go.Proofs.Ytkmcnekjimobhaa.stN
  rw [y3]
def FailQ (mb : Nat) (s : ByteArray) (st : List (Nat × Int)) (w : World) (e : Ending) (w' : World) : Prop :=
  ((failM st = .error 0 /\ e = .returned (.bool false)) \/ ∃ m, failM st = .ok m /\ e = .returned (.bool true) /\ Mach w' mb s m) /\ Below mb w w'
theorem fail_any {w : World} {mb : Nat} {s : ByteArray} {m : MS} (h : Mach w mb s m) (hl : m.st.length <= 10000) :
    Calls Try.prog 86 #[.pointer (some ⟨mb, 0, none⟩)] w (FailQ mb s m.st w) := by
  obtain ⟨pc, at_, st⟩ := m
  dsimp only at hl ⊢
  have hmb : mb < w.heap.size := by obtain ⟨V, cp, hb, ho⟩ := h; exact hb.lt
  have H0 := Lib.hid h
  clear h
  go_enter Try.func86, Try.ntmps86
  go_wp2
  go_loopw [] (fun wr => ∃ st' : List (Nat × Int), Hid (failL st = failL st') /\ Hid (Mach wr mb s ⟨pc, at_, st'⟩) /\ st'.length <= 10000 /\ Below mb w wr) (fun wr => stN wr mb)
  case atStart => exact ⟨st, rfl, H0, hl, bl⟩
  case round =>
    obtain ⟨st', HF, HM, hl', hbw⟩ := hrel
    have hwz := hbw.size
    cases st' with
    | nil =>
      obtain ⟨V, cp, hb, ho⟩ := HM.out
      have y3 : wr.cell? ⟨mb, 3, none⟩ = some (.slice V 0 cp) := hb.cell 3
      have hlt := hb.lt
      clear hb ho
      go_wp2
      go_ret
      refine ⟨.inl ⟨?_, rfl⟩, hbw⟩
      unfold failM
      rw [HF.out]
      rfl
    | cons x r =>
      obtain ⟨p, a⟩ := x
      obtain ⟨g, cp, hb, t0, t1, hmg, hgw, hc1, hc2, hall⟩ := HM.out.top
      have HA := Lib.hid hall
      have y3 : wr.cell? ⟨mb, 3, none⟩ = some (.slice (some ⟨g, 0, none⟩) (r.length + 1) cp) := hb.cell 3
      have f3 := hb.frozen 3
      have hlt := hb.lt
      have hsub : ((r.length + 1 : Nat) : Int) - 1 = (r.length : Int) := by omega
      simp only [List.length_cons] at hl'
      have hlp : (0 : Int) < ((r.length + 1 : Nat) : Int) := by omega
      clear hall
      by_cases ha : a < 0
      · have HF2 : Hid (failL st = failL r) := HF.out.trans (by rw [failL, if_neg (by omega)])
        have ha' : ¬ 0 <= a := by omega
        go_wp2
        have hG9 := gone_alloc (gone_set (gone_refl wr (some mb)) mb 3 (.inl rfl) (.slice (some ⟨g, 0, none⟩) r.length cp)) (.cells #[.int .i64 (p : Int), .int .i64 a] 169)
        have hM9 := HA.out _ pc at_ hG9 ((hb.set_ 3 _).alloc _)
        have hs9 := hM9.stN
        have hs8 := HM.out.stN
        go_roundw
        case rel => exact ⟨r, HF2, hM9, by omega, hbw.trans ((gone_below hG9 (by omega)))⟩
        case measure => rw [hs9, hs8]; simp
      · obtain ⟨q, rfl⟩ : ∃ q : Nat, a = (q : Int) := ⟨a.toNat, by omega⟩
        have HF2 : Hid (failM st = .ok ⟨p, q, r⟩) := by
          show _ = _
          unfold failM
          rw [HF.out, failL, if_pos (by omega)]
          rfl
        go_upto_region 6 with fail
        have hG1 := gone_alloc (gone_set (gone_refl wr (some mb)) mb 3 (.inl rfl) (.slice (some ⟨g, 0, none⟩) r.length cp)) (.cells #[.int .i64 (p : Int), .int .i64 (q : Int)] 169)
        have hB1 := (hb.set_ 3 (.slice (some ⟨g, 0, none⟩) r.length cp)).alloc (.cells #[.int .i64 (p : Int), .int .i64 (q : Int)] 169)
        have x0 : ((wr.setCell ⟨mb, 3, none⟩ (.slice (some ⟨g, 0, none⟩) r.length cp)).alloc (.cells #[.int .i64 (p : Int), .int .i64 (q : Int)] 169)).cell? ⟨wr.heap.size, 0, none⟩ = some (.int .i64 (p : Int)) := (blk_at (by simp) : Blk _ wr.heap.size _ _).cell 0
        have x1 : ((wr.setCell ⟨mb, 3, none⟩ (.slice (some ⟨g, 0, none⟩) r.length cp)).alloc (.cells #[.int .i64 (p : Int), .int .i64 (q : Int)] 169)).cell? ⟨wr.heap.size, 1, none⟩ = some (.int .i64 (q : Int)) := (blk_at (by simp) : Blk _ wr.heap.size _ _).cell 1
        generalize ((wr.setCell ⟨mb, 3, none⟩ (.slice (some ⟨g, 0, none⟩) r.length cp)).alloc (.cells #[.int .i64 (p : Int), .int .i64 (q : Int)] 169)) = W1 at hG1 hB1 x0 x1 ⊢
        have hB1 : Blk W1 mb 116 #[.string s, .int .i64 (pc : Int), .int .i64 (at_ : Int), .slice (some ⟨g, 0, none⟩) r.length cp] := hB1
        have c1 : W1.cell? ⟨mb, 1, none⟩ = some (.int .i64 (pc : Int)) := hB1.cell 1
        have c2 : W1.cell? ⟨mb, 2, none⟩ = some (.int .i64 (at_ : Int)) := hB1.cell 2
        have c3 : (W1.setCell ⟨mb, 1, none⟩ (.int .i64 (p : Int))).cell? ⟨mb, 2, none⟩ = some (.int .i64 (at_ : Int)) := (hB1.set_ 1 _).cell 2
        have c4 : (W1.setCell ⟨mb, 2, none⟩ (.int .i64 (q : Int))).cell? ⟨mb, 1, none⟩ = some (.int .i64 (pc : Int)) := (hB1.set_ 2 _).cell 1
        have g1 := hB1.frozen 1
        have g2 := hB1.frozen 2
        have g4 := (hB1.set_ 1 (.int .i64 (p : Int))).frozen 2
        have g5 := (hB1.set_ 2 (.int .i64 (q : Int))).frozen 1
        have hlt1 := hB1.lt
        have HG1 := Lib.hid hG1
        have HB1 := Lib.hid hB1
        clear hG1 hB1 hb t0 t1 y3 f3
        go_cut [] (fun wx => Mach wx mb s ⟨p, q, r⟩ /\ Below mb w wx)
        case first =>
          go_region
          all_goals
            go_wp2_with fail
            go_meet
            first
            | exact ⟨HA.out _ p q (gone_set (gone_set HG1.out mb 1 (.inl rfl) _) mb 2 (.inl rfl) _) ((HB1.out.set_ 1 _).set_ 2 _), hbw.trans (gone_below (gone_set (gone_set HG1.out mb 1 (.inl rfl) _) mb 2 (.inl rfl) _) (by omega))⟩
            | exact ⟨HA.out _ p q (gone_set (gone_set HG1.out mb 2 (.inl rfl) _) mb 1 (.inl rfl) _) ((HB1.out.set_ 2 _).set_ 1 _), hbw.trans (gone_below (gone_set (gone_set HG1.out mb 2 (.inl rfl) _) mb 1 (.inl rfl) _) (by omega))⟩
            | exact ⟨HA.out _ p q (gone_set (gone_set (gone_drewN HG1.out _) mb 1 (.inl rfl) _) mb 2 (.inl rfl) _) (((HB1.out.drewN _).set_ 1 _).set_ 2 _), hbw.trans (gone_below (gone_set (gone_set (gone_drewN HG1.out _) mb 1 (.inl rfl) _) mb 2 (.inl rfl) _) (by omega))⟩
            | exact ⟨HA.out _ p q (gone_set (gone_set (gone_drewN HG1.out _) mb 2 (.inl rfl) _) mb 1 (.inl rfl) _) (((HB1.out.drewN _).set_ 2 _).set_ 1 _), hbw.trans (gone_below (gone_set (gone_set (gone_drewN HG1.out _) mb 2 (.inl rfl) _) mb 1 (.inl rfl) _) (by omega))⟩
        case rest =>
        obtain ⟨hM, hbl⟩ := hcut
        have HM2 := Lib.hid hM
        have HBL := Lib.hid hbl
        clear hM hbl
        go_wp2
        go_ret
        exact ⟨.inr ⟨_, HF2.out, rfl, HM2.out⟩, HBL.out⟩
def OneQ (mb : Nat) (s : ByteArray) (o : Except Int MS) (w : World) (e : Ending) (w' : World) : Prop :=
  ((∃ m, o = .ok m /\ e = .returned (.tuple #[.bool true, .int .i64 0]) /\ Mach w' mb s m) \/ (∃ z b, o = .error z /\ e = .returned (.tuple #[.bool b, .int .i64 z]) /\ (z = 0 -> b = false))) /\ Below mb w w'
theorem Mach.alloc {w : World} {mb : Nat} {s : ByteArray} {m : MS} (h : Mach w mb s m) (o : Obj) : Mach (w.alloc o) mb s m := h.below ((Below.refl _ _).alloc (Nat.le_refl _) _)
theorem Mach.lt {w : World} {mb : Nat} {s : ByteArray} {m : MS} (h : Mach w mb s m) : mb < w.heap.size := by
  obtain ⟨V, cp, hb, ho⟩ := h
  exact hb.lt
theorem back_any {w : World} {mb : Nat} {s : ByteArray} {pc at_ : Nat} {st : List (Nat × Int)} (op : Int) (n a b c d : Nat) (h : Mach w mb s ⟨pc, at_, st⟩) (hl : st.length <= 10000) :
    Calls Try.prog 88 #[.pointer (some ⟨mb, 0, none⟩), .agg #[.int .i64 op, .int .i64 (n : Int), .int .u64 (a : Int), .int .u64 (b : Int), .int .u64 (c : Int), .int .u64 (d : Int)]] w (OneQ mb s (backM ⟨op, n, a, b, c, d⟩ pc at_ st) w) := by
  obtain ⟨o, ho⟩ : ∃ o, o = backM ⟨op, n, a, b, c, d⟩ pc at_ st := ⟨_, rfl⟩
  rw [<- ho]
  have HO := Lib.hid ho
  clear ho
  have hmb := h.lt
  have hx0 : Blk (w.alloc (.cells #[.int .i64 op, .int .i64 (n : Int), .int .u64 (a : Int), .int .u64 (b : Int), .int .u64 (c : Int), .int .u64 (d : Int)] 62)) w.heap.size 62 #[.int .i64 op, .int .i64 (n : Int), .int .u64 (a : Int), .int .u64 (b : Int), .int .u64 (c : Int), .int .u64 (d : Int)] := blk_at rfl
  have HM := Lib.hid (h.alloc (.cells #[.int .i64 op, .int .i64 (n : Int), .int .u64 (a : Int), .int .u64 (b : Int), .int .u64 (c : Int), .int .u64 (d : Int)] 62))
  have hbw : Below mb w (w.alloc (.cells #[.int .i64 op, .int .i64 (n : Int), .int .u64 (a : Int), .int .u64 (b : Int), .int .u64 (c : Int), .int .u64 (d : Int)] 62)) := bl
  have hsz : w.heap.size < (w.alloc (.cells #[.int .i64 op, .int .i64 (n : Int), .int .u64 (a : Int), .int .u64 (b : Int), .int .u64 (c : Int), .int .u64 (d : Int)] 62)).heap.size := by simp
  clear h
  have hcall : ∃ cl, (op == 6) = cl /\ decide (op = 6) = cl := ⟨op == 6, rfl, by rw [Bool.eq_iff_iff]; simp⟩
  obtain ⟨cl, hcl, hcd⟩ := hcall
  have HCD := Lib.hid hcd
  clear hcd
  have HC := Lib.hid (pop_any HM.out hl cl)
  go_enter Try.func88, Try.ntmps88
  go_wp2_with fail
  refine (HC.out).mono ?_
  generalize (w.alloc (.cells #[.int .i64 op, .int .i64 (n : Int), .int .u64 (a : Int), .int .u64 (b : Int), .int .u64 (c : Int), .int .u64 (d : Int)] 62)) = w1 at hx0 HM hbw hsz HC ⊢
  rintro e w2 ⟨⟨hno, rfl⟩ | ⟨p, q, r, hst, hdc, rfl, hM⟩, hg⟩
  · have hlo := (gone_below hg (Nat.le_of_lt HM.out.lt)).size
    have HBK : Hid (o = .error 13) := by
      show _ = _
      rw [HO.out]
      cases st with
      | nil => rfl
      | cons x r =>
        obtain ⟨p, q⟩ := x
        have := hno p q r rfl
        unfold backM
        dsimp only
        rw [HCD.out, if_neg this]
    have HBW : Hid (Below mb w w2) := hbw.trans (gone_below hg (Nat.le_of_lt HM.out.lt))
    have hmb2 := Nat.lt_of_lt_of_le HM.out.lt hg.size
    clear hno hg
    go_wp2
    exact bodyPost_ret (v := .tuple #[.bool false, .int .i64 13]) (by simp [results, Try.results88, go_sem]) rfl ⟨.inr ⟨13, false, HBK.out, rfl, fun h => absurd h (by decide)⟩, HBW.out.alloc (by omega) _⟩
  · replace hst : st = (p, q) :: r := hst
    replace hM : Mach w2 mb s ⟨pc, at_, r⟩ := hM
    have hx := hx0.grown hg (fun e => by injection e with e; omega)
    have hlt2 := hM.lt
    have hbw2 : Below mb w w2 := hbw.trans (gone_below hg (by have := HM.out.lt; omega))
    have hsz2 : w.heap.size < w2.heap.size := Nat.lt_of_lt_of_le hsz hg.size
    have HBK : Hid (o = if op = 6 then .ok ⟨p, at_, r⟩ else if op = 4 then .ok ⟨n, at_, r⟩ else if op = 9 then .ok ⟨n, at_, (p, at_) :: r⟩ else if op = 10 then .ok ⟨n, q.toNat, r⟩ else if op = 11 then failM r else .ok ⟨pc, at_, r⟩) := by
      show _ = _
      rw [HO.out, hst]
      unfold backM
      dsimp only
      rw [HCD.out, if_pos hdc]
      rfl
    have hlr : r.length < 10000 := by rw [hst] at hl; simp at hl; omega
    have hq0 : op ≠ 6 -> 0 <= q := fun h => by
      have h1 : cl = false := by rw [<- hcl, beq_eq_false_iff_ne]; exact h
      rw [h1] at hdc
      have := of_decide_eq_false hdc
      omega
    clear HO HC HM hx0 hg hdc hst hl hsz HCD
    have hm : Mach w2 mb s ⟨pc, at_, r⟩ := hM
    obtain ⟨V, cp, hb, ho⟩ := hM
    have y1 : w2.cell? ⟨mb, 1, none⟩ = some (.int .i64 (pc : Int)) := hb.cell 1
    have y2 : w2.cell? ⟨mb, 2, none⟩ = some (.int .i64 (at_ : Int)) := hb.cell 2
    have y3 : w2.cell? ⟨mb, 3, none⟩ = some (.slice V r.length cp) := hb.cell 3
    have f1 := hb.frozen 1
    have f2 := hb.frozen 2
    have f3 := hb.frozen 3
    have x0 : w2.cell? ⟨w.heap.size, 0, none⟩ = some (.int .i64 op) := hx.cell 0
    have x1 : w2.cell? ⟨w.heap.size, 1, none⟩ = some (.int .i64 (n : Int)) := hx.cell 1
    have HMM := Lib.hid hm
    have HO := Lib.hid ho
    have HB := Lib.hid hb
    have HW := Lib.hid hbw2
    clear hm hb ho hx hbw2 hbw
    by_cases h6 : op = 6
    · subst h6
      rw [if_pos rfl] at HBK
      clear hcl hq0
      go_wp2
      exact bodyPost_ret (v := .tuple #[.bool true, .int .i64 0]) (by simp [results, Try.results88, go_sem]) rfl ⟨.inl ⟨_, HBK.out, rfl, by first | exact (HMM.out.setPc p).alloc _ | exact (HMM.out.alloc _).setPc p⟩, by first | exact (HW.out.setCell (by simp) _).alloc (by simp; omega) _ | exact (HW.out.alloc (by omega) _).setCell (by simp) _⟩
    rw [if_neg h6] at HBK
    obtain ⟨q, rfl⟩ : ∃ z : Nat, q = (z : Int) := ⟨q.toNat, by have := hq0 h6; omega⟩
    have k6 : (op == 6) = false := by rw [beq_eq_false_iff_ne]; exact h6
    clear hq0 hcl h6
    by_cases h4 : op = 4
    · subst h4
      rw [if_pos rfl] at HBK
      clear k6
      go_wp2
      exact bodyPost_ret (v := .tuple #[.bool true, .int .i64 0]) (by simp [results, Try.results88, go_sem]) rfl ⟨.inl ⟨_, HBK.out, rfl, by first | exact (HMM.out.setPc n).alloc _ | exact (HMM.out.alloc _).setPc n⟩, by first | exact (HW.out.setCell (by simp) _).alloc (by simp; omega) _ | exact (HW.out.alloc (by omega) _).setCell (by simp) _⟩
    rw [if_neg h4] at HBK
    have k4 : (op == 4) = false := by rw [beq_eq_false_iff_ne]; exact h4
    clear h4
    by_cases h9 : op = 9
    · subst h9
      rw [if_pos rfl] at HBK
      obtain ⟨i0, hi0, hz0, hz1, hz2⟩ := info_parts entry_info
      have HS := Lib.hid (stkC_cons (p, (at_ : Int)) r)
      have hO1 : ((w2.setCell ⟨mb, 1, none⟩ (.int .i64 (n : Int))).alloc (.cells #[.int .i64 (p : Int), .int .i64 (q : Int)] 169)).ownsRow (mb + 1) 169 2 (.slice V r.length cp) r.length (stkC r) := (HO.out.kept (grown_field mb 1 _) (.inr (own_not HO.out (by omega)))).alloc _
      have hB1 := (HB.out.set_ 1 (.int .i64 (n : Int))).alloc (.cells #[.int .i64 (p : Int), .int .i64 (q : Int)] 169)
      have hX1 : Blk ((w2.setCell ⟨mb, 1, none⟩ (.int .i64 (n : Int))).alloc (.cells #[.int .i64 (p : Int), .int .i64 (q : Int)] 169)) w2.heap.size 169 #[.int .i64 (p : Int), .int .i64 (q : Int)] := blk_at (by simp)
      have hW1 : Below mb w ((w2.setCell ⟨mb, 1, none⟩ (.int .i64 (n : Int))).alloc (.cells #[.int .i64 (p : Int), .int .i64 (q : Int)] 169)) := (HW.out.setCell (by simp) _).alloc (by simp; omega) _
      have hsz1 : w2.heap.size < ((w2.setCell ⟨mb, 1, none⟩ (.int .i64 (n : Int))).alloc (.cells #[.int .i64 (p : Int), .int .i64 (q : Int)] 169)).heap.size := by simp
      go_upto_region 11 with fail
      generalize ((w2.setCell ⟨mb, 1, none⟩ (.int .i64 (n : Int))).alloc (.cells #[.int .i64 (p : Int), .int .i64 (q : Int)] 169)) = W1 at hO1 hB1 hX1 hW1 hsz1 ⊢
      clear x0 x1 y1 y2 y3 f1 f2 f3
      have hB1 : Blk W1 mb 116 #[.string s, .int .i64 (n : Int), .int .i64 (at_ : Int), .slice V r.length cp] := hB1
      have v0 : W1.cell? ⟨w2.heap.size, 0, none⟩ = some (.int .i64 (p : Int)) := hX1.cell 0
      have c2 : W1.cell? ⟨mb, 2, none⟩ = some (.int .i64 (at_ : Int)) := hB1.cell 2
      have c3 : W1.cell? ⟨mb, 3, none⟩ = some (.slice V r.length cp) := hB1.cell 3
      have hlt1 := hB1.lt
      have HO1 := Lib.hid hO1
      have HB1 := Lib.hid hB1
      have HW1 := Lib.hid hW1
      clear hB1 hX1 hW1 hO1
      go_region_law (refine step_append_row rfl (.tmp 45) (.tmp 53) 114 rfl (mb + 1) 169 i0 _ 2 16 Try.underlying114 hi0 hz0 hz1 hz2 rfl (by decide) (.slice V r.length cp) r.length _ (by simp [Act.eval]) (HO1.out.alloc _) ⟨W1.heap.size, 0, none⟩ 1 1 [.int .i64 (p : Int), .int .i64 (at_ : Int)] (by simp [Act.eval]) rfl (new_row _ _ _) (by simp [Value.oneCell']) (by unfold maxLen; omega) (by omega) (by simp; omega) ?_; intro v' w4 hown4 hgr4; obtain ⟨gg, cap', rfl⟩ := Joins.ownsRow_form hown4 (by omega); have hB4 := ((HB1.out.alloc (.cells #[.int .i64 (p : Int), .int .i64 (at_ : Int)] 169)).drew).grown hgr4 (fun e => own_not HO1.out (by omega) e.symm); have f4 := hB4.frozen 3; have s4 := hB4.cell 3)
      all_goals
        have hG4 : W1.grownBy w4 (Value.slice V r.length cp).ownBlock := grown_behind hgr4
        have hW4 : Below mb w w4 := below_app HW1.out HO1.out hG4 (by omega) (by omega)
        have hM5 : Mach (w4.setCell ⟨mb, 3, none⟩ (.slice (some ⟨gg, 0, none⟩) (r.length + 1) cap')) mb s ⟨n, at_, (p, (at_ : Int)) :: r⟩ := by
          refine ⟨_, _, hB4.set_ 3 _, ?_⟩
          dsimp only
          rw [HS.out]
          exact hown4.kept (grown_field mb 3 _) (.inr (own_not hown4 (by omega)))
        go_wp2
        exact bodyPost_ret (v := .tuple #[.bool true, .int .i64 0]) (by simp [results, Try.results88, go_sem]) rfl ⟨.inl ⟨_, HBK.out, rfl, hM5⟩, hW4.setCell (by simp) _⟩
    rw [if_neg h9] at HBK
    have k9 : (op == 9) = false := by rw [beq_eq_false_iff_ne]; exact h9
    clear h9
    by_cases h10 : op = 10
    · subst h10
      rw [if_pos rfl] at HBK
      have HA := Lib.hid ((HMM.out.alloc (.cells #[.int .i64 (p : Int), .int .i64 (q : Int)] 169)))
      have hB1 := HB.out.alloc (.cells #[.int .i64 (p : Int), .int .i64 (q : Int)] 169)
      have hX1 : Blk (w2.alloc (.cells #[.int .i64 (p : Int), .int .i64 (q : Int)] 169)) w2.heap.size 169 #[.int .i64 (p : Int), .int .i64 (q : Int)] := blk_at rfl
      have hx1 := x1
      have hW1 : Below mb w (w2.alloc (.cells #[.int .i64 (p : Int), .int .i64 (q : Int)] 169)) := HW.out.alloc (by omega) _
      have hn1 : (w2.alloc (.cells #[.int .i64 (p : Int), .int .i64 (q : Int)] 169)).cell? ⟨w.heap.size, 1, none⟩ = some (.int .i64 (n : Int)) := (World.cell?_of_block (Below.heap_alloc w2 _ _ hsz2)).trans hx1
      clear hx1 x1 y1 y2 y3 f1 f2 f3
      go_upto_region 13 with fail
      generalize (w2.alloc (.cells #[.int .i64 (p : Int), .int .i64 (q : Int)] 169)) = W1 at HA hB1 hX1 hW1 hn1 ⊢
      have hB1 : Blk W1 mb 116 #[.string s, .int .i64 (pc : Int), .int .i64 (at_ : Int), .slice V r.length cp] := hB1
      have v1 : W1.cell? ⟨w2.heap.size, 1, none⟩ = some (.int .i64 (q : Int)) := hX1.cell 1
      have c1 : W1.cell? ⟨mb, 1, none⟩ = some (.int .i64 (pc : Int)) := hB1.cell 1
      have c2 : W1.cell? ⟨mb, 2, none⟩ = some (.int .i64 (at_ : Int)) := hB1.cell 2
      have c3 : (W1.setCell ⟨mb, 1, none⟩ (.int .i64 (n : Int))).cell? ⟨mb, 2, none⟩ = some (.int .i64 (at_ : Int)) := (hB1.set_ 1 _).cell 2
      have c4 : (W1.setCell ⟨mb, 2, none⟩ (.int .i64 (q : Int))).cell? ⟨mb, 1, none⟩ = some (.int .i64 (pc : Int)) := (hB1.set_ 2 _).cell 1
      have g1 := hB1.frozen 1
      have g2 := hB1.frozen 2
      have g4 := (hB1.set_ 1 (.int .i64 (n : Int))).frozen 2
      have g5 := (hB1.set_ 2 (.int .i64 (q : Int))).frozen 1
      have hlt1 := hB1.lt
      have hne1 : mb ≠ w2.heap.size := by omega
      have hne2 : mb ≠ w.heap.size := by omega
      have HW1 := Lib.hid hW1
      clear hB1 hX1 hW1
      go_region
      all_goals
        go_wp2
        exact bodyPost_ret (v := .tuple #[.bool true, .int .i64 0]) (by simp [results, Try.results88, go_sem]) rfl ⟨.inl ⟨_, HBK.out, rfl, by first | exact (HA.out.setPc n).setAt q | exact (HA.out.setAt q).setPc n⟩, by first | exact (HW1.out.setCell (Nat.le_refl _) _).setCell (Nat.le_refl _) _ | exact below_drewN ((HW1.out.setCell (Nat.le_refl _) _).setCell (Nat.le_refl _) _) 1 | exact Below.drew ((HW1.out.setCell (Nat.le_refl _) _).setCell (Nat.le_refl _) _)⟩
    rw [if_neg h10] at HBK
    have k10 : (op == 10) = false := by rw [beq_eq_false_iff_ne]; exact h10
    clear h10
    by_cases h11 : op = 11
    · subst h11
      rw [if_pos rfl] at HBK
      have HFF := Lib.hid (fail_any (HMM.out.alloc (.cells #[.int .i64 (p : Int), .int .i64 (q : Int)] 169)) (by omega : r.length <= 10000))
      go_wp2_with fail
      refine (HFF.out).mono ?_
      rintro e w3 ⟨⟨hf, rfl⟩ | ⟨m, hf, rfl, hm⟩, hbl⟩
      · have HF := Lib.hid hf
        have HBL := Lib.hid hbl
        clear hf hbl
        go_wp2
        exact bodyPost_ret (v := .tuple #[.bool false, .int .i64 0]) (by simp [results, Try.results88, go_sem]) rfl ⟨.inr ⟨0, false, HBK.out.trans HF.out, rfl, fun _ => rfl⟩, (HW.out.alloc (by omega) _).trans HBL.out⟩
      · have HF := Lib.hid hf
        have HBL := Lib.hid hbl
        have HM3 := Lib.hid hm
        clear hf hbl hm
        go_wp2
        exact bodyPost_ret (v := .tuple #[.bool true, .int .i64 0]) (by simp [results, Try.results88, go_sem]) rfl ⟨.inl ⟨_, HBK.out.trans HF.out, rfl, HM3.out⟩, (HW.out.alloc (by omega) _).trans HBL.out⟩
    rw [if_neg h11] at HBK
    have k11 : (op == 11) = false := by rw [beq_eq_false_iff_ne]; exact h11
    clear h11
    go_wp2
    exact bodyPost_ret (v := .tuple #[.bool true, .int .i64 0]) (by simp [results, Try.results88, go_sem]) rfl ⟨.inl ⟨_, HBK.out, rfl, HMM.out.alloc _⟩, HW.out.alloc (by omega) _⟩
structure MaC (mb : Nat) (X Y : Array Value) (xb : Nat) (w W : World) : Prop where
  mb_ : Blk W mb 116 X
  box : Blk W xb 62 Y
  bel : Below w.heap.size w W
theorem MaC.below {mb : Nat} {X Y : Array Value} {xb : Nat} {w W W' : World} (h : MaC mb X Y xb w W) (hb : Below W.heap.size W W') : MaC mb X Y xb w W' := ⟨h.mb_.below hb h.mb_.lt, h.box.below hb h.box.lt, h.bel.trans (hb.mono h.bel.size)⟩
theorem MaC.drew {mb : Nat} {X Y : Array Value} {xb : Nat} {w W : World} (h : MaC mb X Y xb w W) : MaC mb X Y xb w W.drew := h.below (Below.refl _ _).drew
theorem one_any {w : World} {mb : Nat} {s : ByteArray} {pc at_ : Nat} {st : List (Nat × Int)} (op : Int) (n a b c d : Nat) (h : Mach w mb s ⟨pc, at_, st⟩) (hl : st.length <= 10000) (hpc : pc <= 6000) (hat : at_ <= s.size) (hs : s.size <= 60)
    (hwd : Words [a, b, c, d]) :
    Calls Try.prog 54 #[.pointer (some ⟨mb, 0, none⟩), .agg #[.int .i64 op, .int .i64 (n : Int), .int .u64 (a : Int), .int .u64 (b : Int), .int .u64 (c : Int), .int .u64 (d : Int)]] w (OneQ mb s (oneM s.data.toList ⟨op, n, a, b, c, d⟩ ⟨pc, at_, st⟩) w) := by
  obtain ⟨o, ho⟩ : ∃ o, o = oneM s.data.toList ⟨op, n, a, b, c, d⟩ ⟨pc, at_, st⟩ := ⟨_, rfl⟩
  rw [<- ho]
  have HBK : Hid (o = if op = 1 then (if at_ = s.data.toList.length \/ hasN [a, b, c, d] (s.data.toList.getD at_ 0).toNat = false then failM st else .ok ⟨pc + 1, at_ + 1, st⟩) else if op = 2 then .ok ⟨n, at_, st⟩ else if op = 3 then pushM (pc + 1) at_ st (n, (at_ : Int)) else if op = 5 then pushM n at_ st (pc + 1, -1) else if op = 7 then failM st else backM ⟨op, n, a, b, c, d⟩ (pc + 1) at_ st) := ho
  clear ho
  have hmb := h.lt
  have e1 : ((pc + 1 : Nat) : Int) = (pc : Int) + 1 := by omega
  have H1 : Mach ((w.setCell ⟨mb, 1, none⟩ (.int .i64 ((pc : Int) + 1))).alloc (.cells #[.int .i64 op, .int .i64 (n : Int), .int .u64 (a : Int), .int .u64 (b : Int), .int .u64 (c : Int), .int .u64 (d : Int)] 62)) mb s ⟨pc + 1, at_, st⟩ := by
    have := (h.setPc (pc + 1)).alloc (.cells #[.int .i64 op, .int .i64 (n : Int), .int .u64 (a : Int), .int .u64 (b : Int), .int .u64 (c : Int), .int .u64 (d : Int)] 62)
    rw [e1] at this
    exact this
  have hW1 : Below mb w ((w.setCell ⟨mb, 1, none⟩ (.int .i64 ((pc : Int) + 1))).alloc (.cells #[.int .i64 op, .int .i64 (n : Int), .int .u64 (a : Int), .int .u64 (b : Int), .int .u64 (c : Int), .int .u64 (d : Int)] 62)) := ((Below.refl mb w).setCell (p := ⟨mb, 1, none⟩) (Nat.le_refl _) (.int .i64 ((pc : Int) + 1))).alloc (Nat.le_of_lt (by simpa [World.setCell] using hmb)) _
  have hX1 : Blk ((w.setCell ⟨mb, 1, none⟩ (.int .i64 ((pc : Int) + 1))).alloc (.cells #[.int .i64 op, .int .i64 (n : Int), .int .u64 (a : Int), .int .u64 (b : Int), .int .u64 (c : Int), .int .u64 (d : Int)] 62)) w.heap.size 62 #[.int .i64 op, .int .i64 (n : Int), .int .u64 (a : Int), .int .u64 (b : Int), .int .u64 (c : Int), .int .u64 (d : Int)] := blk_at (by simp)
  obtain ⟨V, cp, hb, -⟩ := h
  have y1 : w.cell? ⟨mb, 1, none⟩ = some (.int .i64 (pc : Int)) := hb.cell 1
  have f1 := hb.frozen 1
  have hb1 : Blk ((w.setCell ⟨mb, 1, none⟩ (.int .i64 ((pc : Int) + 1))).alloc (.cells #[.int .i64 op, .int .i64 (n : Int), .int .u64 (a : Int), .int .u64 (b : Int), .int .u64 (c : Int), .int .u64 (d : Int)] 62)) mb 116 #[.string s, .int .i64 ((pc : Int) + 1), .int .i64 (at_ : Int), .slice V st.length cp] := (hb.set_ 1 _).alloc _
  dsimp only at hb
  go_enter Try.func54, Try.ntmps54
  go_upto_region 2 with fail
  generalize ((w.setCell ⟨mb, 1, none⟩ (.int .i64 ((pc : Int) + 1))).alloc (.cells #[.int .i64 op, .int .i64 (n : Int), .int .u64 (a : Int), .int .u64 (b : Int), .int .u64 (c : Int), .int .u64 (d : Int)] 62)) = W1 at H1 hW1 hX1 hb1 ⊢
  clear hb y1 f1
  have x0 : W1.cell? ⟨w.heap.size, 0, none⟩ = some (.int .i64 op) := hX1.cell 0
  have x1 : W1.cell? ⟨w.heap.size, 1, none⟩ = some (.int .i64 (n : Int)) := hX1.cell 1
  have y1 : W1.cell? ⟨mb, 1, none⟩ = some (.int .i64 ((pc : Int) + 1)) := hb1.cell 1
  have y2 : W1.cell? ⟨mb, 2, none⟩ = some (.int .i64 (at_ : Int)) := hb1.cell 2
  have f1 := hb1.frozen 1
  have f2 := hb1.frozen 2
  have hmw := hX1.lt
  have hmm := hb1.lt
  have HM := Lib.hid H1
  have HX := Lib.hid hX1
  have HB := Lib.hid hb1
  have HW := Lib.hid hW1
  have HFF := Lib.hid (fun (W : World) (hW : Mach W mb s ⟨pc + 1, at_, st⟩) => fail_any hW hl)
  clear H1 hX1 hb1 hW1
  by_cases h1 : op = 1
  · subst h1
    rw [if_pos rfl] at HBK
    have hsl : s.data.toList.length = s.size := Array.length_toList
    rw [hsl] at HBK
    clear hsl x0 x1 y1 y2 f1 f2
    have hC0 : MaC mb #[.string s, .int .i64 ((pc : Int) + 1), .int .i64 (at_ : Int), .slice V st.length cp] #[.int .i64 1, .int .i64 (n : Int), .int .u64 (a : Int), .int .u64 (b : Int), .int .u64 (c : Int), .int .u64 (d : Int)] w.heap.size W1 W1.drew := ⟨HB.out.drew, HX.out.drew, (Below.refl _ _).drew⟩
    have x0 : W1.cell? ⟨w.heap.size, 0, none⟩ = some (.int .i64 1) := HX.out.cell 0
    have HC0 := Lib.hid hC0
    clear hC0
    have HWD := Lib.hid hwd
    clear hwd
    by_cases hps : at_ < s.size
    · have hbt := bt_of hps
      have hh := has_any [a, b, c, d] HWD.out (bt s.data.toList at_) (bt_lt _ _)
      unfold vals at hh
      have hgd : (s.data.toList.getD at_ 0).toNat = bt s.data.toList at_ := rfl
      rw [hgd] at HBK
      generalize hasN [a, b, c, d] (bt s.data.toList at_) = x at hh HBK
      generalize bt s.data.toList at_ = y at hbt hh
      have hne : ((at_ : Int) == (s.size : Int)) = false := by rw [beq_eq_false_iff_ne]; omega
      have hnn : ¬ at_ = s.size := by omega
      have HH := Lib.hid hh
      have HNN := Lib.hid hnn
      have hlt' : (at_ : Int) < (s.size : Int) := by omega
      clear hh hnn hgd
      go_upto_region 5 with fail
      refine wp_region_q (MaC mb #[.string s, .int .i64 ((pc : Int) + 1), .int .i64 (at_ : Int), .slice V st.length cp] #[.int .i64 1, .int .i64 (n : Int), .int .u64 (a : Int), .int .u64 (b : Int), .int .u64 (c : Int), .int .u64 (d : Int)] w.heap.size W1) (by kernel_rfl) (by kernel_rfl) HC0.out ?_
      repeat
        (first | ((with_reducible apply QW.free rfl); · (intro W hW; have s0 := hW.mb_.cell 0; have s2 := hW.mb_.cell 2; have t2 := hW.box.cell 2; have t3 := hW.box.cell 3; have t4 := hW.box.cell 4; have t5 := hW.box.cell 5; go_simp; first | rfl | (go_at_call 85; refine (HH.out _).mono ?_; exact fun e w' h => ⟨h.1, hW.below h.2⟩))) | ((with_reducible apply QW.skip rfl); · (first | exact ⟨_, _, rfl, rfl, .inl rfl⟩ | exact ⟨_, _, rfl, rfl, .inr rfl⟩)) | ((with_reducible apply QW.take rfl); (· exact ⟨_, rfl, rfl⟩); (· (intro W hW; have s0 := hW.mb_.cell 0; have s2 := hW.mb_.cell 2; have t2 := hW.box.cell 2; have t3 := hW.box.cell 3; have t4 := hW.box.cell 4; have t5 := hW.box.cell 5; go_simp; first | rfl | (go_at_call 85; refine (HH.out _).mono ?_; exact fun e w' h => ⟨h.1, hW.below h.2⟩))))); (try simp only [Act.put, List.setIfInBounds_toArray, List.set_cons_zero, List.set_cons_succ])
      refine QW.nil ?_
      intro w2 h2
      have HM2 := Lib.hid (HM.out.below h2.bel)
      have y2 : w2.cell? ⟨mb, 2, none⟩ = some (.int .i64 (at_ : Int)) := h2.mb_.cell 2
      have f2 := h2.mb_.frozen 2
      have HW2 : Hid (Below mb w w2) := HW.out.trans (h2.bel.mono (by omega))
      clear h2
      cases x with
      | true =>
        rw [if_neg (by rintro (h | h); exact HNN.out h; cases h)] at HBK
        go_wp2
        have hA := HM2.out.setAt (at_ + 1)
        rw [show ((at_ + 1 : Nat) : Int) = (at_ : Int) + 1 from by omega] at hA
        exact bodyPost_ret (v := .tuple #[.bool true, .int .i64 0]) (by simp [results, Try.results54, go_sem]) rfl ⟨.inl ⟨_, HBK.out, rfl, hA⟩, HW2.out.setCell (Nat.le_refl _) _⟩
      | false =>
        rw [if_pos (.inr rfl)] at HBK
        go_wp2_with fail
        refine (HFF.out _ HM2.out).mono ?_
        rintro e w3 ⟨⟨hf, rfl⟩ | ⟨m, hf, rfl, hm⟩, hbl⟩
        · have HF := Lib.hid hf
          have HBL := Lib.hid hbl
          clear hf hbl
          go_wp2
          exact bodyPost_ret (v := .tuple #[.bool false, .int .i64 0]) (by simp [results, Try.results54, go_sem]) rfl ⟨.inr ⟨0, false, HBK.out.trans HF.out, rfl, fun _ => rfl⟩, HW2.out.trans HBL.out⟩
        · have HF := Lib.hid hf
          have HBL := Lib.hid hbl
          have HM3 := Lib.hid hm
          clear hf hbl hm
          go_wp2
          exact bodyPost_ret (v := .tuple #[.bool true, .int .i64 0]) (by simp [results, Try.results54, go_sem]) rfl ⟨.inl ⟨_, HBK.out.trans HF.out, rfl, HM3.out⟩, HW2.out.trans HBL.out⟩
    · rw [if_pos (.inl (by omega))] at HBK
      have hne : ((at_ : Int) == (s.size : Int)) = true := by rw [beq_iff_eq]; omega
      go_upto_region 5 with fail
      refine wp_region_q (MaC mb #[.string s, .int .i64 ((pc : Int) + 1), .int .i64 (at_ : Int), .slice V st.length cp] #[.int .i64 1, .int .i64 (n : Int), .int .u64 (a : Int), .int .u64 (b : Int), .int .u64 (c : Int), .int .u64 (d : Int)] w.heap.size W1) (by kernel_rfl) (by kernel_rfl) HC0.out ?_
      repeat
        (first | ((with_reducible apply QW.free rfl); · (intro W hW; have s0 := hW.mb_.cell 0; have s2 := hW.mb_.cell 2; go_simp; first | rfl)) | ((with_reducible apply QW.skip rfl); · (first | exact ⟨_, _, rfl, rfl, .inl rfl⟩ | exact ⟨_, _, rfl, rfl, .inr rfl⟩)) | ((with_reducible apply QW.take rfl); (· exact ⟨_, rfl, rfl⟩); (· (intro W hW; have s0 := hW.mb_.cell 0; have s2 := hW.mb_.cell 2; go_simp; first | rfl)))); (try simp only [Act.put, List.setIfInBounds_toArray, List.set_cons_zero, List.set_cons_succ])
      refine QW.nil ?_
      intro w2 h2
      have HM2 := Lib.hid (HM.out.below h2.bel)
      have HW2 : Hid (Below mb w w2) := HW.out.trans (h2.bel.mono (by omega))
      clear h2
      go_wp2_with fail
      refine (HFF.out _ HM2.out).mono ?_
      rintro e w3 ⟨⟨hf, rfl⟩ | ⟨m, hf, rfl, hm⟩, hbl⟩
      · have HF := Lib.hid hf
        have HBL := Lib.hid hbl
        clear hf hbl
        go_wp2
        exact bodyPost_ret (v := .tuple #[.bool false, .int .i64 0]) (by simp [results, Try.results54, go_sem]) rfl ⟨.inr ⟨0, false, HBK.out.trans HF.out, rfl, fun _ => rfl⟩, HW2.out.trans HBL.out⟩
      · have HF := Lib.hid hf
        have HBL := Lib.hid hbl
        have HM3 := Lib.hid hm
        clear hf hbl hm
        go_wp2
        exact bodyPost_ret (v := .tuple #[.bool true, .int .i64 0]) (by simp [results, Try.results54, go_sem]) rfl ⟨.inl ⟨_, HBK.out.trans HF.out, rfl, HM3.out⟩, HW2.out.trans HBL.out⟩
  rw [if_neg h1] at HBK
  have k1 : (op == 1) = false := by rw [beq_eq_false_iff_ne]; exact h1
  clear h1
  by_cases h2 : op = 2
  · subst h2
    rw [if_pos rfl] at HBK
    clear k1
    go_wp2
    exact bodyPost_ret (v := .tuple #[.bool true, .int .i64 0]) (by simp [results, Try.results54, go_sem]) rfl ⟨.inl ⟨_, HBK.out, rfl, HM.out.setPc n⟩, HW.out.setCell (Nat.le_refl _) _⟩
  rw [if_neg h2] at HBK
  have k2 : (op == 2) = false := by rw [beq_eq_false_iff_ne]; exact h2
  clear h2
  by_cases h3 : op = 3
  · subst h3
    rw [if_pos rfl] at HBK
    have HP := Lib.hid (fun (W : World) (hW : Below W1.heap.size W1 W) => push_any (HM.out.below hW) hl n (at_ : Int))
    have hC0 : MaC mb #[.string s, .int .i64 ((pc : Int) + 1), .int .i64 (at_ : Int), .slice V st.length cp] #[.int .i64 3, .int .i64 (n : Int), .int .u64 (a : Int), .int .u64 (b : Int), .int .u64 (c : Int), .int .u64 (d : Int)] w.heap.size W1 W1.drew := ⟨HB.out.drew, HX.out.drew, (Below.refl _ _).drew⟩
    clear x1 y1 y2 f1 f2
    go_upto_region 11 with fail
    clear x0
    refine wp_region_l (MaC mb #[.string s, .int .i64 ((pc : Int) + 1), .int .i64 (at_ : Int), .slice V st.length cp] #[.int .i64 3, .int .i64 (n : Int), .int .u64 (a : Int), .int .u64 (b : Int), .int .u64 (c : Int), .int .u64 (d : Int)] w.heap.size W1) (fun k => decide (8 <= k)) (by kernel_rfl) ?_
    have hC := hC0
    generalize W1.drew = wd at hC ⊢
    clear hC0
    apply L.rdt (i := 0) rfl (by kernel_rfl) hC rfl
    · intro W hW
      skip
      unfold readW
      go_simp
      first | rfl | exact ⟨rfl, rfl⟩
    first | simp only [Act.put, p1, p2, p3] | skip
    apply L.rdt (i := 1) rfl (by kernel_rfl) hC rfl
    · intro W hW
      skip
      unfold readW
      go_simp
      first | rfl | exact ⟨rfl, rfl⟩
    first | simp only [Act.put, p1, p2, p3] | skip
    apply L.rdt (i := 2) rfl (by kernel_rfl) hC rfl
    · intro W hW
      have r1 := hW.box.cell 1
      unfold readW
      go_simp
      first | rfl | exact ⟨rfl, rfl⟩
    first | simp only [Act.put, p1, p2, p3] | skip
    apply L.rdt (i := 3) rfl (by kernel_rfl) hC rfl
    · intro W hW
      skip
      unfold readW
      go_simp
      first | rfl | exact ⟨rfl, rfl⟩
    first | simp only [Act.put, p1, p2, p3] | skip
    apply L.rdt (i := 4) rfl (by kernel_rfl) hC rfl
    · intro W hW
      skip
      unfold readW
      go_simp
      first | rfl | exact ⟨rfl, rfl⟩
    first | simp only [Act.put, p1, p2, p3] | skip
    apply L.rdt (i := 5) rfl (by kernel_rfl) hC rfl
    · intro W hW
      skip
      unfold readW
      go_simp
      first | rfl | exact ⟨rfl, rfl⟩
    first | simp only [Act.put, p1, p2, p3] | skip
    apply L.rdt (i := 6) rfl (by kernel_rfl) hC rfl
    · intro W hW
      have r2 := hW.mb_.cell 2
      unfold readW
      go_simp
      first | rfl | exact ⟨rfl, rfl⟩
    first | simp only [Act.put, p1, p2, p3] | skip
    apply L.rdt (i := 7) rfl (by kernel_rfl) hC rfl
    · intro W hW
      skip
      unfold readW
      go_simp
      first | rfl | exact ⟨rfl, rfl⟩
    first | simp only [Act.put, p1, p2, p3] | skip
    apply L.one (i := 8) rfl (by kernel_rfl) rfl
    unfold stepT
    go_simp
    go_at_call 87
    refine (HP.out wd hC.bel).mono ?_
    rintro e w2 ⟨⟨hfull, rfl, hM2⟩ | ⟨hroom, rfl, hM2⟩, hb2, -⟩
    all_goals
      have HM2 := Lib.hid hM2
      have HB2 : Hid (Below mb w w2) := (HW.out.trans (hC.bel.mono (by omega))).trans hb2
      clear hM2 hb2 hC
      refine ⟨_, rfl, ?_⟩
      first | simp only [Act.put, p1, p2, p3] | skip
      apply L.rdl (i := 9) rfl (by kernel_rfl) rfl
      · intro W
        unfold readW
        go_simp
        first | rfl | exact ⟨rfl, rfl⟩
      first | simp only [Act.put, p1, p2, p3] | skip
      apply L.rdl (i := 10) rfl (by kernel_rfl) rfl
      · intro W
        unfold readW
        go_simp
        first | rfl | exact ⟨rfl, rfl⟩
      first | simp only [Act.put, p1, p2, p3] | skip
      refine L.done (by kernel_rfl) ?_
    · have HFU := Lib.hid hfull
      clear hfull
      go_wp2
      exact bodyPost_ret (v := .tuple #[.bool true, .int .i64 14]) (by simp [results, Try.results54, go_sem]) rfl ⟨.inr ⟨14, true, HBK.out.trans (if_pos HFU.out), rfl, fun h => absurd h (by decide)⟩, HB2.out⟩
    · have HRO := Lib.hid hroom
      clear hroom
      go_wp2
      exact bodyPost_ret (v := .tuple #[.bool true, .int .i64 0]) (by simp [results, Try.results54, go_sem]) rfl ⟨.inl ⟨_, HBK.out.trans (if_neg HRO.out), rfl, HM2.out⟩, HB2.out⟩
  rw [if_neg h3] at HBK
  have k3 : (op == 3) = false := by rw [beq_eq_false_iff_ne]; exact h3
  clear h3
  by_cases h5 : op = 5
  · subst h5
    rw [if_pos rfl] at HBK
    have HP := push_any HM.out hl (pc + 1) (-1)
    rw [e1] at HP
    replace HP := Lib.hid HP
    go_wp2_with fail
    refine (HP.out).mono ?_
    rintro e w2 ⟨⟨hfull, rfl, hM2⟩ | ⟨hroom, rfl, hM2⟩, hb2, hk2⟩
    all_goals
      have hx2 := hk2 _ _ _ (by omega) (by decide) HX.out
      have v1 : w2.cell? ⟨w.heap.size, 1, none⟩ = some (.int .i64 (n : Int)) := hx2.cell 1
      have HM2 := Lib.hid hM2
      have HB2 := Lib.hid hb2
      obtain ⟨V2, cp2, hbm, -⟩ := hM2
      have u1 := hbm.cell 1
      have g1 := hbm.frozen 1
      simp only [List.getElem?_toArray, List.getElem?_cons_succ, List.getElem?_cons_zero] at u1
      clear hb2 hk2 hx2 hbm HP
    · have HFU := Lib.hid hfull
      clear hfull
      go_wp2
      exact bodyPost_ret (v := .tuple #[.bool true, .int .i64 14]) (by simp [results, Try.results54, go_sem]) rfl ⟨.inr ⟨14, true, HBK.out.trans (if_pos HFU.out), rfl, fun h => absurd h (by decide)⟩, HW.out.trans (HB2.out.setCell (Nat.le_refl _) _)⟩
    · have HRO := Lib.hid hroom
      clear hroom
      go_wp2
      exact bodyPost_ret (v := .tuple #[.bool true, .int .i64 0]) (by simp [results, Try.results54, go_sem]) rfl ⟨.inl ⟨_, HBK.out.trans (if_neg HRO.out), rfl, HM2.out.setPc n⟩, HW.out.trans (HB2.out.setCell (Nat.le_refl _) _)⟩
  rw [if_neg h5] at HBK
  have k5 : (op == 5) = false := by rw [beq_eq_false_iff_ne]; exact h5
  clear h5
  by_cases h7 : op = 7
  · subst h7
    rw [if_pos rfl] at HBK
    go_wp2_with fail
    refine (HFF.out _ HM.out).mono ?_
    rintro e w3 ⟨⟨hf, rfl⟩ | ⟨m, hf, rfl, hm⟩, hbl⟩
    · have HF := Lib.hid hf
      have HBL := Lib.hid hbl
      clear hf hbl
      go_wp2
      exact bodyPost_ret (v := .tuple #[.bool false, .int .i64 0]) (by simp [results, Try.results54, go_sem]) rfl ⟨.inr ⟨0, false, HBK.out.trans HF.out, rfl, fun _ => rfl⟩, HW.out.trans HBL.out⟩
    · have HF := Lib.hid hf
      have HBL := Lib.hid hbl
      have HM3 := Lib.hid hm
      clear hf hbl hm
      go_wp2
      exact bodyPost_ret (v := .tuple #[.bool true, .int .i64 0]) (by simp [results, Try.results54, go_sem]) rfl ⟨.inl ⟨_, HBK.out.trans HF.out, rfl, HM3.out⟩, HW.out.trans HBL.out⟩
  rw [if_neg h7] at HBK
  have k7 : (op == 7) = false := by rw [beq_eq_false_iff_ne]; exact h7
  clear h7
  have x2 : W1.cell? ⟨w.heap.size, 2, none⟩ = some (.int .u64 (a : Int)) := HX.out.cell 2
  have x3 : W1.cell? ⟨w.heap.size, 3, none⟩ = some (.int .u64 (b : Int)) := HX.out.cell 3
  have x4 : W1.cell? ⟨w.heap.size, 4, none⟩ = some (.int .u64 (c : Int)) := HX.out.cell 4
  have x5 : W1.cell? ⟨w.heap.size, 5, none⟩ = some (.int .u64 (d : Int)) := HX.out.cell 5
  have HBA := Lib.hid (back_any op n a b c d HM.out hl)
  go_wp2_with fail
  refine (HBA.out).mono ?_
  rintro e w3 ⟨⟨m, hf, rfl, hm⟩ | ⟨z, bb, hf, rfl, hz⟩, hbl⟩
  · have HF := Lib.hid hf
    have HBL := Lib.hid hbl
    have HM3 := Lib.hid hm
    clear hf hbl hm
    go_wp2
    exact bodyPost_ret (v := .tuple #[.bool true, .int .i64 0]) (by simp [results, Try.results54, go_sem]) rfl ⟨.inl ⟨_, HBK.out.trans HF.out, rfl, HM3.out⟩, HW.out.trans HBL.out⟩
  · have HF := Lib.hid hf
    have HBL := Lib.hid hbl
    have HZ := Lib.hid hz
    clear hf hbl hz
    go_wp2
    exact bodyPost_ret (v := .tuple #[.bool bb, .int .i64 z]) (by simp [results, Try.results54, go_sem]) rfl ⟨.inr ⟨z, bb, HBK.out.trans HF.out, rfl, HZ.out⟩, HW.out.trans HBL.out⟩
end Go.Proofs.Ytkmcnekjimobhaa
