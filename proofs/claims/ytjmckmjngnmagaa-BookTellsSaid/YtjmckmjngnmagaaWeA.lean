/- well.star, well.then, well.or. -/
import Derived.Test.YtjmckmjngnmagaaGH
import Derived.Test.YtjmckmjngnmagaaGC
namespace Go.Proofs.Ytjmckmjngnmagaa
open Go.RowKit

/-- what a rule may do: succeed without a byte, with some, fail -/
structure Fa where
  (e a f : Bool)
deriving DecidableEq
def Fa.vals (x : Fa) : List Value := [.bool x.e, .bool x.a, .bool x.f]
def starF (x : Fa) : Fa := ⟨x.f, x.a, false⟩
def thenF (a b : Fa) : Fa := ⟨a.e && b.e, a.a && (b.e || b.a) || a.e && b.a, a.f || (a.e || a.a) && b.f⟩
def orF (a b : Fa) : Fa := ⟨a.e || a.f && b.e, a.a || a.f && b.a, a.f && b.f⟩

theorem star_any (e a f : Bool) (w : World) : Calls Try.prog 102 #[.agg #[.bool e, .bool a, .bool f]] w fun e' w' => e' = .returned (.agg #[.bool f, .bool a, .bool false]) ∧ Below w.heap.size w w' := by
  go_enter Try.func102, Try.ntmps102
  go_wp2
  exact bodyPost_ret (v := .agg #[.bool f, .bool a, .bool false]) (by simp [results, Try.results102, go_sem]) rfl ⟨rfl, (by repeat (first | exact Below.refl _ _ | assumption | refine Below.drew ?_ | refine below_drewN ?_ _ | refine Below.alloc ?_ (by first | omega | (simp; omega) | simp) _ | refine Below.setCell ?_ (by first | omega | (simp; omega) | simp) _))⟩

set_option maxHeartbeats 8000000 in
theorem then_any (e a f e2 a2 f2 : Bool) (w : World) : Calls Try.prog 100 #[.agg #[.bool e, .bool a, .bool f], .agg #[.bool e2, .bool a2, .bool f2]] w fun e' w' =>
    e' = .returned (.agg (thenF ⟨e, a, f⟩ ⟨e2, a2, f2⟩).vals.toArray) ∧ Below w.heap.size w w' := by
  go_enter Try.func100, Try.ntmps100
  go_wp2
  all_goals (exact bodyPost_ret (by simp [results, Try.results100, go_sem]; rfl) rfl ⟨by simp [thenF, Fa.vals, *], (by repeat (first | exact Below.refl _ _ | assumption | refine Below.drew ?_ | refine below_drewN ?_ _ | refine Below.alloc ?_ (by first | omega | (simp; omega) | simp) _ | refine Below.setCell ?_ (by first | omega | (simp; omega) | simp) _))⟩)

set_option maxHeartbeats 8000000 in
theorem or_any (e a f e2 a2 f2 : Bool) (w : World) : Calls Try.prog 101 #[.agg #[.bool e, .bool a, .bool f], .agg #[.bool e2, .bool a2, .bool f2]] w fun e' w' =>
    e' = .returned (.agg (orF ⟨e, a, f⟩ ⟨e2, a2, f2⟩).vals.toArray) ∧ Below w.heap.size w w' := by
  go_enter Try.func101, Try.ntmps101
  go_wp2
  all_goals (exact bodyPost_ret (by simp [results, Try.results101, go_sem]; rfl) rfl ⟨by simp [orF, Fa.vals, *], (by repeat (first | exact Below.refl _ _ | assumption | refine Below.drew ?_ | refine below_drewN ?_ _ | refine Below.alloc ?_ (by first | omega | (simp; omega) | simp) _ | refine Below.setCell ?_ (by first | omega | (simp; omega) | simp) _))⟩)
end Go.Proofs.Ytjmckmjngnmagaa
