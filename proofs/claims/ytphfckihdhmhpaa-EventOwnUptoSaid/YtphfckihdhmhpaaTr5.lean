/- Lists of events are compared (slices.Equal). -/
import Derived.Test.YtphfckihdhmhpaaTr2
import Derived.Laws.StructEq
import Derived.BigQuiet
import Derived.Deep.QuietTactic
namespace Go.Proofs.Ytphfckihdhmhpaa
open Go.RowKit

theorem run_same_ev (w : World) (a b c a' b' c' : Int) : (Op.equalIn 10000 81 (.agg #[.int .i64 a, .int .i64 b, .int .i64 c]) (.agg #[.int .i64 a', .int .i64 b', .int .i64 c'])).run Try.prog w = .ok (a == a' && (b == b' && c == c')) w := by
  have u3 := Try.underlying3
  have a3 := Try.isAgg3
  have z3 := Try.sizeOf3
  have hS : Try.prog.underlying 81 = some (.struct (Try.prog.fieldsOf 81)) := by kernel_rfl
  have hp : Try.prog.stoodInHeld 81 = false := by kernel_rfl
  rw [show (10000 : Nat) = 9999 + 1 from rfl, run_equalIn_agg w 9999 81 _ _ hS hp]
  simp only [Program.fieldsOf, Try.underlying81]
  go_simp
  by_cases h1 : a = a' <;> by_cases h2 : b = b' <;> by_cases h3 : c = c' <;> simp [h1, h2, h3]

theorem evCells_get : ∀ (l : List Ev) (j : Nat) (v : Ev), l[j]? = some v → ∀ i u, [Value.int .i64 v.1, .int .i64 v.2.1, .int .i64 v.2.2][i]? = some u → (evCells l)[j * 3 + i]? = some u
  | [], j, v, h => by simp at h
  | x :: l, 0, v, h => fun i u hu => by
    simp at h
    subst h
    unfold evCells
    rw [List.flatMap_cons, Nat.zero_mul, Nat.zero_add, List.getElem?_append_left (getElem?_lt hu)]
    exact hu
  | x :: l, j + 1, v, h => fun i u hu => by
    have := evCells_get l j v (by simpa using h) i u hu
    unfold evCells at this ⊢
    rw [List.flatMap_cons, List.getElem?_append_right (by simp; omega)]
    simp only [List.length_cons, List.length_nil]
    rw [← this]
    congr 1
    omega
theorem Reads.ev_at {w : World} {B n j : Nat} {A : Option Addr} {l : List Ev} (h : Reads w B 3 A n (evCells l)) (hj : j < n) :
    ∃ ad a b c, A = some ad ∧ (ad.add (j * 3)).block < B ∧ l[j]? = some (a, b, c) ∧ w.cell? (ad.add (j * 3)) = some (.int .i64 a) ∧
      w.cell? ⟨(ad.add (j * 3)).block, (ad.add (j * 3)).off + 1, none⟩ = some (.int .i64 b) ∧ w.cell? ⟨(ad.add (j * 3)).block, (ad.add (j * 3)).off + 2, none⟩ = some (.int .i64 c) := by
  obtain ⟨ad, rfl, hb, hc⟩ := h.lies (by omega)
  have hl : l.length = n := by have := h.len; rw [evCells_len] at this; omega
  have hej : l[j]? = some (l[j]'(by omega)) := List.getElem?_eq_getElem (by omega)
  generalize l[j]'(by omega) = v at hej
  obtain ⟨a, b, c⟩ := v
  have hg := evCells_get l j _ hej
  refine ⟨ad, a, b, c, rfl, by rw [add_block]; exact hb, hej, ?_, ?_, ?_⟩
  · have := hc (j * 3 + 0) _ (hg 0 _ rfl)
    exact this
  · have := hc (j * 3 + 1) _ (hg 1 _ rfl)
    rw [← add_add'] at this
    exact this
  · have := hc (j * 3 + 2) _ (hg 2 _ rfl)
    rw [← add_add'] at this
    exact this
theorem Reads.ev_len {w : World} {B n : Nat} {A : Option Addr} {l : List Ev} (h : Reads w B 3 A n (evCells l)) : l.length = n := by have := h.len; rw [evCells_len] at this; omega

set_option maxRecDepth 100000 in
theorem equalE_any (A A' : Option Addr) (n c n' c' : Nat) (l l' : List Ev) (B B' : Nat) (w : World) (h : Reads w B 3 A n (evCells l)) (h' : Reads w B' 3 A' n' (evCells l')) (hn : Small n) :
    Calls Try.prog 40 #[.slice A n c, .slice A' n' c'] w fun e w' => e = .returned (.bool (decide (l = l'))) ∧ ∃ d, w' = w.drewN d := by
  have HL := Lib.hid h.ev_len
  have HL' := Lib.hid h'.ev_len
  unfold Small at hn
  by_cases hnn : n = n'
  · subst hnn
    go_enter Try.func40, Try.ntmps40
    go_wp2
    go_loopw [5, 13] (fun _ i wr => ∃ j d : Nat, j ≤ n ∧ i = .int .i64 j ∧ Hid (l.take j = l'.take j) ∧ wr = w.drewN d) (fun _ i _ => n - (intOf i).toNat)
    case atStart => exact ⟨0, 0, by omega, rfl, rfl, rfl⟩
    case round =>
      obtain ⟨j, d, hj, rfl, HR, rfl⟩ := hrel
      by_cases hjn : j < n
      · obtain ⟨ad, x, y, z, rfl, hab, hg, e0, e1, e2⟩ := h.ev_at hjn
        obtain ⟨ad', x', y', z', rfl, hab', hg', e0', e1', e2'⟩ := h'.ev_at hjn
        have hq := fun w => run_same_ev w x y z x' y' z'
        have HG := Lib.hid hg
        have HG' := Lib.hid hg'
        clear hg hg'
        by_cases heq : x = x' ∧ y = y' ∧ z = z'
        · obtain ⟨rfl, rfl, rfl⟩ := heq
          simp only [BEq.rfl, Bool.and_self] at hq
          go_wp2
          go_quiet (fail)
          go_wp2
          go_roundw
          case rel => exact ⟨j + 1, _, by omega, by go_num, by show _ = _; rw [take_succ_of HG.out, take_succ_of HG'.out, HR.out], rfl⟩
          case measure => simp [intOf]; omega
        · have hb : (x == x' && (y == y' && z == z')) = false := by
            rw [Bool.eq_false_iff]
            simpa using heq
          have HF : Hid (decide (l = l') = false) := by
            show _ = _
            rw [decide_eq_false_iff_not]
            rintro rfl
            have := HG.out.symm.trans HG'.out
            injection this with this
            simp only [Prod.mk.injEq] at this
            exact heq this
          simp only [hb] at hq
          go_wp2
          go_quiet (fail)
          go_wp2
          go_ret
          exact ⟨ret_bool HF.out.symm, d + nq, by first | rfl | simp [World.drewN, Nat.add_assoc] | rw [World.drewN_drewN]⟩
      · obtain rfl : j = n := by omega
        have HF : Hid (decide (l = l') = true) := by
          show _ = _
          have h1 := HR.out
          rw [List.take_of_length_le (by rw [HL.out]; omega), List.take_of_length_le (by rw [HL'.out]; omega)] at h1
          exact decide_eq_true h1
        go_wp2
        go_ret
        exact ⟨ret_bool HF.out.symm, _, rfl⟩
  · have HF : Hid (decide (l = l') = false) := by
      show _ = _
      rw [decide_eq_false_iff_not]
      rintro rfl
      exact hnn (HL.out.symm.trans HL'.out)
    have hb : ((n : Int) != (n' : Int)) = true := by rw [bne_iff_ne]; omega
    go_enter Try.func40, Try.ntmps40
    go_wp2
    go_ret
    exact ⟨ret_bool HF.out.symm, 0, rfl⟩
end Go.Proofs.Ytphfckihdhmhpaa
