/- The walk of the law SetAlgebra: it returns true, and what was there stays as it was. -/
import Derived.Test.YtkoenjnjkapfmaaSet4
import Derived.Test.YtkoenjnjkapfmaaSetLaw
import Derived.Test.YtkoenjnjkapfmaaQuiet
namespace Go.Proofs.Ytkoenjnjkapfmaa
open Go.RowKit

theorem join_x (a b c d a' b' c' d' : Int) (w : World) : Calls Try.prog 14 #[.agg #[.int .u64 a, .int .u64 b, .int .u64 c, .int .u64 d], .agg #[.int .u64 a', .int .u64 b', .int .u64 c', .int .u64 d']] w
    fun e w' => e = .returned (.agg #[.int .u64 (orU a a'), .int .u64 (orU b b'), .int .u64 (orU c c'), .int .u64 (orU d d')]) ∧ Below w.heap.size w w' := join_any ⟨a, b, c, d⟩ ⟨a', b', c', d'⟩ w
theorem meet_x (a b c d a' b' c' d' : Int) (w : World) : Calls Try.prog 15 #[.agg #[.int .u64 a, .int .u64 b, .int .u64 c, .int .u64 d], .agg #[.int .u64 a', .int .u64 b', .int .u64 c', .int .u64 d']] w
    fun e w' => e = .returned (.agg #[.int .u64 (andU a a'), .int .u64 (andU b b'), .int .u64 (andU c c'), .int .u64 (andU d d')]) ∧ Below w.heap.size w w' := meet_any ⟨a, b, c, d⟩ ⟨a', b', c', d'⟩ w
theorem not_x (a b c d : Int) (w : World) : Calls Try.prog 16 #[.agg #[.int .u64 a, .int .u64 b, .int .u64 c, .int .u64 d]] w
    fun e w' => e = .returned (.agg #[.int .u64 (notU a), .int .u64 (notU b), .int .u64 (notU c), .int .u64 (notU d)]) ∧ Below w.heap.size w w' := not_any ⟨a, b, c, d⟩ w
theorem range_full (w : World) : Calls Try.prog 17 #[.int .i64 0, .int .i64 255] w
    fun e w' => e = .returned (.agg #[.int .u64 18446744073709551615, .int .u64 18446744073709551615, .int .u64 18446744073709551615, .int .u64 18446744073709551615]) ∧ Below w.heap.size w w' := by
  have h : rangeL 0 256 = [18446744073709551615, 18446744073709551615, 18446744073709551615, 18446744073709551615] := by decide +kernel
  have hr := range_any 0 255 w (by unfold I64; omega) (by unfold I64; omega) 0 256 (by omega) (by omega)
  rw [h] at hr
  exact hr
theorem range_35 (w : World) : Calls Try.prog 17 #[.int .i64 3, .int .i64 5] w
    fun e w' => e = .returned (.agg #[.int .u64 56, .int .u64 0, .int .u64 0, .int .u64 0]) ∧ Below w.heap.size w w' := by
  have h : rangeL 3 3 = [56, 0, 0, 0] := by decide +kernel
  have hr := range_any 3 5 w (by unfold I64; omega) (by unfold I64; omega) 3 3 (by omega) (by omega)
  rw [h] at hr
  exact hr

/-- three sets that were boxed lie where they lay -/
structure Boxed (w0 : World) (n : Nat) (s t u : Array Value) (w : World) : Prop where
  s : Blk w n 24 s
  t : Blk w (n + 1) 24 t
  u : Blk w (n + 1 + 1) 24 u
  b : Below n w0 w
theorem Boxed.step {w0 : World} {n : Nat} {s t u : Array Value} {w w' : World} (h : Boxed w0 n s t u w) (hb : Below w.heap.size w w') : Boxed w0 n s t u w' :=
  ⟨h.s.below hb h.s.lt, h.t.below hb h.t.lt, h.u.below hb h.u.lt, h.b.trans (hb.mono (by have := h.s.lt; omega))⟩

theorem Boxed.drew {w0 : World} {n : Nat} {s t u : Array Value} {w : World} (h : Boxed w0 n s t u w) : Boxed w0 n s t u w.drew := ⟨h.s.drew, h.t.drew, h.u.drew, h.b.drew⟩

theorem eq_yes {a b c d a' b' c' d' : Int} (h1 : a = a') (h2 : b = b') (h3 : c = c') (h4 : d = d') (w : World) :
    (binOp .eql 24 (.agg #[.int .u64 a, .int .u64 b, .int .u64 c, .int .u64 d]) (.agg #[.int .u64 a', .int .u64 b', .int .u64 c', .int .u64 d'])).run Try.prog w = .ok (.bool true) w := by
  rw [run_eql_set, h1, h2, h3, h4]; simp

set_option maxRecDepth 100000 in
set_option maxHeartbeats 4000000 in
theorem walk_SetAlgebra (a b c d a' b' c' d' a'' b'' c'' d'' : Int) (h1 : U64 a ∧ U64 b ∧ U64 c ∧ U64 d) (h2 : U64 a' ∧ U64 b' ∧ U64 c' ∧ U64 d') (h3 : U64 a'' ∧ U64 b'' ∧ U64 c'' ∧ U64 d'') (w : World) :
    Calls Try.prog 3 #[.agg #[.int .u64 a, .int .u64 b, .int .u64 c, .int .u64 d], .agg #[.int .u64 a', .int .u64 b', .int .u64 c', .int .u64 d'], .agg #[.int .u64 a'', .int .u64 b'', .int .u64 c'', .int .u64 d'']] w
      fun e w' => e = .returned (.bool true) ∧ Below w.heap.size w w' := by
  obtain ⟨ha, hb, hc, hd⟩ := h1
  obtain ⟨ha', hb', hc', hd'⟩ := h2
  obtain ⟨ha'', hb'', hc'', hd''⟩ := h3
  have q1 := eq_yes (deMorgan ha ha') (deMorgan hb hb') (deMorgan hc hc') (deMorgan hd hd')
  have q2 := eq_yes (not_not' ha) (not_not' hb) (not_not' hc) (not_not' hd)
  have q3 := eq_yes (distrib ha ha' ha'') (distrib hb hb' hb'') (distrib hc hc' hc'') (distrib hd hd' hd'')
  have q4 := eq_yes (absorb ha ha') (absorb hb hb') (absorb hc hc') (absorb hd hd')
  have q5 := eq_yes (or_not ha) (or_not hb) (or_not hc) (or_not hd)
  have q6 := eq_yes (and_not ha) (and_not hb) (and_not hc) (and_not hd)
  have q7 := eq_yes (show (56 : Int) = 56 from rfl) (show (0 : Int) = 0 from rfl) (show (0 : Int) = 0 from rfl) (show (0 : Int) = 0 from rfl)
  clear ha hb hc hd ha' hb' hc' hd' ha'' hb'' hc'' hd''
  go_enter Try.func3, Try.ntmps3
  go_wp2_with fail
  have hB : Boxed w w.heap.size #[.int .u64 a, .int .u64 b, .int .u64 c, .int .u64 d] #[.int .u64 a', .int .u64 b', .int .u64 c', .int .u64 d'] #[.int .u64 a'', .int .u64 b'', .int .u64 c'', .int .u64 d'']
      (((w.alloc (.cells #[.int .u64 a, .int .u64 b, .int .u64 c, .int .u64 d] 24)).alloc (.cells #[.int .u64 a', .int .u64 b', .int .u64 c', .int .u64 d'] 24)).alloc (.cells #[.int .u64 a'', .int .u64 b'', .int .u64 c'', .int .u64 d''] 24)) :=
    ⟨((blk_at rfl).alloc _).alloc _, (blk_at (by simp)).alloc _, blk_at (by simp), (by repeat (first | exact Below.refl _ _ | assumption | refine Below.drew ?_ | refine below_drewN ?_ _ | refine Below.alloc ?_ (by first | omega | (simp; omega) | simp) _ | refine Below.setCell ?_ (by first | omega | (simp; omega) | simp) _))⟩
  simp only [List.append]
  refine wp_region_quiet (C := Boxed w w.heap.size #[.int .u64 a, .int .u64 b, .int .u64 c, .int .u64 d] #[.int .u64 a', .int .u64 b', .int .u64 c', .int .u64 d'] #[.int .u64 a'', .int .u64 b'', .int .u64 c'', .int .u64 d'']) (by kernel_rfl) (by kernel_rfl) hB.drew ?_
  clear hB
  repeat
    (first | refine wpQuiet_no rfl ?_ | (apply wpQuiet_yes rfl; · (intro W hW; have c1 := hW.s.cell; have c2 := hW.t.cell; have c3 := hW.u.cell; go_simp; first | rfl | (go_at_call 14; (with_reducible refine (join_x _ _ _ _ _ _ _ _ _).mono ?_); exact fun e w' h => ⟨h.1, hW.step h.2⟩) | (go_at_call 15; (with_reducible refine (meet_x _ _ _ _ _ _ _ _ _).mono ?_); exact fun e w' h => ⟨h.1, hW.step h.2⟩) | (go_at_call 16; (with_reducible refine (not_x _ _ _ _ _).mono ?_); exact fun e w' h => ⟨h.1, hW.step h.2⟩) | (go_at_call 17; (with_reducible refine (range_full _).mono ?_); exact fun e w' h => ⟨h.1, hW.step h.2⟩) | (go_at_call 17; (with_reducible refine (range_35 _).mono ?_); exact fun e w' h => ⟨h.1, hW.step h.2⟩)))); (try simp only [Act.put, List.setIfInBounds_toArray, List.set_cons_zero, List.set_cons_succ])
  refine wpQuiet_nil ?_
  intro w1 hw1
  have hb1 := hw1.b
  clear hw1 q1 q2 q3 q4 q5 q6 q7
  go_wp2
  go_ret
  exact ⟨rfl, hb1⟩
end Go.Proofs.Ytkoenjnjkapfmaa
