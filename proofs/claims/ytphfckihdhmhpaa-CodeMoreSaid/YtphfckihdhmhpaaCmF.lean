/- The machine of package code: fail. -/
import Derived.Test.YtphfckihdhmhpaaCmM
namespace Go.Proofs.Ytphfckihdhmhpaa
open Go.RowKit

def stN (w : World) (mb : Nat) : Nat := match w.cell? ⟨mb, 3, none⟩ with | some (.slice _ n _) => n | _ => 0
theorem Mach.stN {w : World} {mb : Nat} {s : ByteArray} {m : MS} (h : Mach w mb s m) : stN w mb = m.st.length := by
  obtain ⟨V, cp, hb, ho⟩ := h
  have y3 : w.cell? ⟨mb, 3, none⟩ = some (.slice V m.st.length cp) := hb.cell 3
  unfold Go.Proofs.Ytphfckihdhmhpaa.stN
  rw [y3]
/-- what fail leaves -/
def FailQ (mb : Nat) (s : ByteArray) (st : List (Nat × Int)) (w : World) (e : Ending) (w' : World) : Prop :=
  ((failM st = .error 0 ∧ e = .returned (.bool false)) ∨ ∃ m, failM st = .ok m ∧ e = .returned (.bool true) ∧ Mach w' mb s m) ∧ Below mb w w'

set_option maxHeartbeats 4000000 in
set_option maxRecDepth 100000 in
theorem fail_any {w : World} {mb : Nat} {s : ByteArray} {m : MS} (h : Mach w mb s m) (hl : m.st.length ≤ 10000) :
    Calls Try.prog 98 #[.pointer (some ⟨mb, 0, none⟩)] w (FailQ mb s m.st w) := by
  obtain ⟨pc, at_, st⟩ := m
  dsimp only at hl ⊢
  have hmb : mb < w.heap.size := by obtain ⟨V, cp, hb, ho⟩ := h; exact hb.lt
  have H0 := Lib.hid h
  clear h
  go_enter Try.func98, Try.ntmps98
  go_wp2
  go_loopw [] (fun wr => ∃ st' : List (Nat × Int), Hid (failL st = failL st') ∧ Hid (Mach wr mb s ⟨pc, at_, st'⟩) ∧ st'.length ≤ 10000 ∧ Below mb w wr) (fun wr => stN wr mb)
  case atStart => exact ⟨st, rfl, H0, hl, (by repeat (first | exact Below.refl _ _ | assumption | refine Below.drew ?_ | refine below_drewN ?_ _ | refine Below.alloc ?_ (by first | omega | (simp; omega) | simp) _ | refine Below.setCell ?_ (by first | omega | (simp; omega) | simp) _))⟩
  case round =>
    obtain ⟨st', HF, HM, hl', hbw⟩ := hrel
    have hwz := hbw.size
    cases st' with
    | nil =>
      obtain ⟨V, cp, hb, ho⟩ := HM.out
      have y3 : wr.cell? ⟨mb, 3, none⟩ = some (.slice V 0 cp) := hb.cell 3
      have hlt := hb.lt
      clear hb ho
      go_wp2
      go_ret
      refine ⟨.inl ⟨?_, rfl⟩, hbw⟩
      unfold failM
      rw [HF.out]
      rfl
    | cons x r =>
      obtain ⟨p, a⟩ := x
      obtain ⟨g, cp, hb, t0, t1, hmg, hgw, hc1, hc2, hall⟩ := HM.out.top
      have HA := Lib.hid hall
      have y3 : wr.cell? ⟨mb, 3, none⟩ = some (.slice (some ⟨g, 0, none⟩) (r.length + 1) cp) := hb.cell 3
      have f3 := hb.frozen 3
      have hlt := hb.lt
      have hsub : ((r.length + 1 : Nat) : Int) - 1 = (r.length : Int) := by omega
      simp only [List.length_cons] at hl'
      have hlp : (0 : Int) < ((r.length + 1 : Nat) : Int) := by omega
      clear hall
      by_cases ha : a < 0
      · have HF2 : Hid (failL st = failL r) := HF.out.trans (by rw [failL, if_neg (by omega)])
        have ha' : ¬ 0 ≤ a := by omega
        go_wp2
        have hG9 := gone_alloc (gone_set (gone_refl wr (some mb)) mb 3 (.inl rfl) (.slice (some ⟨g, 0, none⟩) r.length cp)) (.cells #[.int .i64 (p : Int), .int .i64 a] 185)
        have hM9 := HA.out _ pc at_ hG9 ((hb.set_ 3 _).alloc _)
        have hs9 := hM9.stN
        have hs8 := HM.out.stN
        go_roundw
        case rel => exact ⟨r, HF2, hM9, by omega, hbw.trans ((gone_below hG9 (by omega)))⟩
        case measure => rw [hs9, hs8]; simp
      · obtain ⟨q, rfl⟩ : ∃ q : Nat, a = (q : Int) := ⟨a.toNat, by omega⟩
        have HF2 : Hid (failM st = .ok ⟨p, q, r⟩) := by
          show _ = _
          unfold failM
          rw [HF.out, failL, if_pos (by omega)]
          rfl
        go_upto_region 6 with fail
        have hG1 := gone_alloc (gone_set (gone_refl wr (some mb)) mb 3 (.inl rfl) (.slice (some ⟨g, 0, none⟩) r.length cp)) (.cells #[.int .i64 (p : Int), .int .i64 (q : Int)] 185)
        have hB1 := (hb.set_ 3 (.slice (some ⟨g, 0, none⟩) r.length cp)).alloc (.cells #[.int .i64 (p : Int), .int .i64 (q : Int)] 185)
        have x0 : ((wr.setCell ⟨mb, 3, none⟩ (.slice (some ⟨g, 0, none⟩) r.length cp)).alloc (.cells #[.int .i64 (p : Int), .int .i64 (q : Int)] 185)).cell? ⟨wr.heap.size, 0, none⟩ = some (.int .i64 (p : Int)) := (blk_at (by simp) : Blk _ wr.heap.size _ _).cell 0
        have x1 : ((wr.setCell ⟨mb, 3, none⟩ (.slice (some ⟨g, 0, none⟩) r.length cp)).alloc (.cells #[.int .i64 (p : Int), .int .i64 (q : Int)] 185)).cell? ⟨wr.heap.size, 1, none⟩ = some (.int .i64 (q : Int)) := (blk_at (by simp) : Blk _ wr.heap.size _ _).cell 1
        generalize ((wr.setCell ⟨mb, 3, none⟩ (.slice (some ⟨g, 0, none⟩) r.length cp)).alloc (.cells #[.int .i64 (p : Int), .int .i64 (q : Int)] 185)) = W1 at hG1 hB1 x0 x1 ⊢
        have hB1 : Blk W1 mb 135 #[.string s, .int .i64 (pc : Int), .int .i64 (at_ : Int), .slice (some ⟨g, 0, none⟩) r.length cp] := hB1
        have c1 : W1.cell? ⟨mb, 1, none⟩ = some (.int .i64 (pc : Int)) := hB1.cell 1
        have c2 : W1.cell? ⟨mb, 2, none⟩ = some (.int .i64 (at_ : Int)) := hB1.cell 2
        have c3 : (W1.setCell ⟨mb, 1, none⟩ (.int .i64 (p : Int))).cell? ⟨mb, 2, none⟩ = some (.int .i64 (at_ : Int)) := (hB1.set_ 1 _).cell 2
        have c4 : (W1.setCell ⟨mb, 2, none⟩ (.int .i64 (q : Int))).cell? ⟨mb, 1, none⟩ = some (.int .i64 (pc : Int)) := (hB1.set_ 2 _).cell 1
        have g1 := hB1.frozen 1
        have g2 := hB1.frozen 2
        have g4 := (hB1.set_ 1 (.int .i64 (p : Int))).frozen 2
        have g5 := (hB1.set_ 2 (.int .i64 (q : Int))).frozen 1
        have hlt1 := hB1.lt
        have HG1 := Lib.hid hG1
        have HB1 := Lib.hid hB1
        clear hG1 hB1 hb t0 t1 y3 f3
        go_cut [] (fun wx => Mach wx mb s ⟨p, q, r⟩ ∧ Below mb w wx)
        case first =>
          go_region
          all_goals
            go_wp2_with fail
            go_meet
            first
            | exact ⟨HA.out _ p q (gone_set (gone_set HG1.out mb 1 (.inl rfl) _) mb 2 (.inl rfl) _) ((HB1.out.set_ 1 _).set_ 2 _), hbw.trans (gone_below (gone_set (gone_set HG1.out mb 1 (.inl rfl) _) mb 2 (.inl rfl) _) (by omega))⟩
            | exact ⟨HA.out _ p q (gone_set (gone_set HG1.out mb 2 (.inl rfl) _) mb 1 (.inl rfl) _) ((HB1.out.set_ 2 _).set_ 1 _), hbw.trans (gone_below (gone_set (gone_set HG1.out mb 2 (.inl rfl) _) mb 1 (.inl rfl) _) (by omega))⟩
            | exact ⟨HA.out _ p q (gone_set (gone_set (gone_drewN HG1.out _) mb 1 (.inl rfl) _) mb 2 (.inl rfl) _) (((HB1.out.drewN _).set_ 1 _).set_ 2 _), hbw.trans (gone_below (gone_set (gone_set (gone_drewN HG1.out _) mb 1 (.inl rfl) _) mb 2 (.inl rfl) _) (by omega))⟩
            | exact ⟨HA.out _ p q (gone_set (gone_set (gone_drewN HG1.out _) mb 2 (.inl rfl) _) mb 1 (.inl rfl) _) (((HB1.out.drewN _).set_ 2 _).set_ 1 _), hbw.trans (gone_below (gone_set (gone_set (gone_drewN HG1.out _) mb 2 (.inl rfl) _) mb 1 (.inl rfl) _) (by omega))⟩
        case rest =>
        obtain ⟨hM, hbl⟩ := hcut
        have HM2 := Lib.hid hM
        have HBL := Lib.hid hbl
        clear hM hbl
        go_wp2
        go_ret
        exact ⟨.inr ⟨_, HF2.out, rfl, HM2.out⟩, HBL.out⟩
end Go.Proofs.Ytphfckihdhmhpaa
