/- Lists of facts are compared (slices.Equal). -/
import Derived.Test.YtefechceoeeonaaHB
import Derived.Laws.StructEq
import Derived.BigQuiet
import Derived.Deep.QuietTactic
namespace Go.Proofs.Ytefechceoeeonaa
open Go.RowKit

set_option maxRecDepth 100000 in
theorem equalF_any (A A' : Option Addr) (n c n' c' : Nat) (l l' : List Fa) (B B' : Nat) (w : World) (h : Reads w B 3 A n (facs l)) (h' : Reads w B' 3 A' n' (facs l')) (hn : n ≤ 1000) (hl : l.length = n) (hl' : l'.length = n') :
    Calls Try.prog 40 #[.slice A n c, .slice A' n' c'] w fun e w' => e = .returned (.bool (decide (l = l'))) ∧ ∃ d, w' = w.drewN d := by
  have HL := Lib.hid hl
  have HL' := Lib.hid hl'
  clear hl hl'
  by_cases hnn : n = n'
  · subst hnn
    go_enter Try.func40, Try.ntmps40
    go_wp2
    go_loopw [5, 13] (fun _ i wr => ∃ j d : Nat, j ≤ n ∧ i = .int .i64 j ∧ Hid (l.take j = l'.take j) ∧ wr = w.drewN d) (fun _ i _ => n - (intOf i).toNat)
    case atStart => exact ⟨0, 0, by omega, rfl, rfl, rfl⟩
    case round =>
      obtain ⟨j, d, hj, rfl, HR, rfl⟩ := hrel
      by_cases hjn : j < n
      · obtain ⟨ad, x, rfl, hab, hg, e0, e1, e2⟩ := reads_fac h hjn
        obtain ⟨ad', x', rfl, hab', hg', e0', e1', e2'⟩ := reads_fac h' hjn
        have hq := fun w => run_same_facts w x x'
        have HG := Lib.hid hg
        have HG' := Lib.hid hg'
        clear hg hg'
        by_cases heq : x = x'
        · subst heq
          simp only [decide_true] at hq
          obtain ⟨x1, x2, x3⟩ := x
          go_wp2
          go_quiet (fail)
          go_wp2
          go_roundw
          case rel => exact ⟨j + 1, _, by omega, by go_num, by show _ = _; rw [take_succ_of HG.out, take_succ_of HG'.out, HR.out], rfl⟩
          case measure => simp [intOf]; omega
        · have HF : Hid (decide (l = l') = false) := by
            show _ = _
            rw [decide_eq_false_iff_not]
            rintro rfl
            have := HG.out.symm.trans HG'.out
            injection this with this
            exact heq this
          simp only [heq, decide_false] at hq
          obtain ⟨x1, x2, x3⟩ := x
          obtain ⟨y1, y2, y3⟩ := x'
          clear heq
          go_wp2
          go_quiet (fail)
          go_wp2
          go_ret
          exact ⟨ret_bool HF.out.symm, d + nq, by first | rfl | simp [World.drewN, Nat.add_assoc] | rw [World.drewN_drewN]⟩
      · obtain rfl : j = n := by omega
        have HF : Hid (decide (l = l') = true) := by
          show _ = _
          have h1 := HR.out
          rw [List.take_of_length_le (by rw [HL.out]; omega), List.take_of_length_le (by rw [HL'.out]; omega)] at h1
          exact decide_eq_true h1
        go_wp2
        go_ret
        exact ⟨ret_bool HF.out.symm, _, rfl⟩
  · have HF : Hid (decide (l = l') = false) := by
      show _ = _
      rw [decide_eq_false_iff_not]
      rintro rfl
      exact hnn (HL.out.symm.trans HL'.out)
    have hb : ((n : Int) != (n' : Int)) = true := by rw [bne_iff_ne]; omega
    go_enter Try.func40, Try.ntmps40
    go_wp2
    go_ret
    exact ⟨ret_bool HF.out.symm, 0, rfl⟩
end Go.Proofs.Ytefechceoeeonaa
