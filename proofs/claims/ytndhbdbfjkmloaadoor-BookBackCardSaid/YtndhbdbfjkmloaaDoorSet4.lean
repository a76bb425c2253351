/- Sets are compared word by word; the walk of the law SetAlgebra. -/
import Derived.Test.YtndhbdbfjkmloaaDoorBase
import Derived.Test.YtndhbdbfjkmloaaDoorProg
import Derived.ChangeKeysEq
namespace Go.Proofs.YtndhbdbfjkmloaaDoor
open Go.RowKit

theorem u64_info : (Tryd.prog.info? 22).map (fun i => (i.zero, i.size, i.bytes)) = some (some (.int .u64 0), 1, 8) := by kernel_rfl
theorem u64_cells : Tryd.prog.cellsOf 22 = 1 := by kernel_rfl
theorem part_u64 (w : World) (cs : Array Value) (i : Nat) (x : Int) (h : cs[i]? = some (.int .u64 x)) : (part 22 cs i).run Tryd.prog w = .ok (.int .u64 x) w := by
  have hu := Tryd.underlying22
  simp [part, isAgg, run_underlying hu, h]
theorem run_eq_u64 (w : World) (d : Nat) (a b : Int) : (Op.equalIn (d + 1) 22 (.int .u64 a) (.int .u64 b)).run Tryd.prog w = .ok (a == b) w := run_equalIn_int w d _ .u64 .u64 a b Tryd.underlying22
theorem run_eql_set (w : World) (a b c d a' b' c' d' : Int) :
    (binOp .eql 24 (.agg #[.int .u64 a, .int .u64 b, .int .u64 c, .int .u64 d]) (.agg #[.int .u64 a', .int .u64 b', .int .u64 c', .int .u64 d'])).run Tryd.prog w = .ok (.bool (a == a' && (b == b' && (c == c' && d == d')))) w := by
  obtain ⟨i, hi, _⟩ := info_parts u64_info
  have h : (Op.equalIn (9999 + 1) 24 (.agg #[.int .u64 a, .int .u64 b, .int .u64 c, .int .u64 d]) (.agg #[.int .u64 a', .int .u64 b', .int .u64 c', .int .u64 d'])).run Tryd.prog w = .ok (a == a' && (b == b' && (c == c' && d == d'))) w := by
    rw [run_equalIn_array w 9999 _ _ Tryd.underlying24 hi, u64_cells]
    show (Op.eqItems (9998 + 1) 22 1 _ _ [0, 1, 2, 3]).run _ _ = _
    generalize 9998 = n
    simp only [Op.eqItems, Sem.run_bind, part_u64 w #[.int .u64 a, .int .u64 b, .int .u64 c, .int .u64 d] (0 * 1) a rfl, part_u64 w #[.int .u64 a, .int .u64 b, .int .u64 c, .int .u64 d] (1 * 1) b rfl, part_u64 w #[.int .u64 a, .int .u64 b, .int .u64 c, .int .u64 d] (2 * 1) c rfl, part_u64 w #[.int .u64 a, .int .u64 b, .int .u64 c, .int .u64 d] (3 * 1) d rfl,
      part_u64 w #[.int .u64 a', .int .u64 b', .int .u64 c', .int .u64 d'] (0 * 1) a' rfl, part_u64 w #[.int .u64 a', .int .u64 b', .int .u64 c', .int .u64 d'] (1 * 1) b' rfl, part_u64 w #[.int .u64 a', .int .u64 b', .int .u64 c', .int .u64 d'] (2 * 1) c' rfl, part_u64 w #[.int .u64 a', .int .u64 b', .int .u64 c', .int .u64 d'] (3 * 1) d' rfl, run_eq_u64, Result.andThen_ok, Sem.run_ite, Sem.run_pure]
    cases a == a' <;> cases b == b' <;> cases c == c' <;> cases d == d' <;> simp
  rw [run_eql_struct]
  rw [h]
  rfl
/-- sets are compared word by word -/
theorem run_same_set (w : World) (a b c d a' b' c' d' : Int) : (Op.equalIn 10000 24 (.agg #[.int .u64 a, .int .u64 b, .int .u64 c, .int .u64 d]) (.agg #[.int .u64 a', .int .u64 b', .int .u64 c', .int .u64 d'])).run Tryd.prog w = .ok (a == a' && (b == b' && (c == c' && d == d'))) w := by
  obtain ⟨i, hi, _⟩ := info_parts u64_info
  show (Op.equalIn (9999 + 1) 24 _ _).run Tryd.prog w = _
  rw [run_equalIn_array w 9999 _ _ Tryd.underlying24 hi, u64_cells]
  show (Op.eqItems (9998 + 1) 22 1 _ _ [0, 1, 2, 3]).run _ _ = _
  generalize 9998 = n
  simp only [Op.eqItems, Sem.run_bind, part_u64 w #[.int .u64 a, .int .u64 b, .int .u64 c, .int .u64 d] (0 * 1) a rfl, part_u64 w #[.int .u64 a, .int .u64 b, .int .u64 c, .int .u64 d] (1 * 1) b rfl, part_u64 w #[.int .u64 a, .int .u64 b, .int .u64 c, .int .u64 d] (2 * 1) c rfl, part_u64 w #[.int .u64 a, .int .u64 b, .int .u64 c, .int .u64 d] (3 * 1) d rfl,
    part_u64 w #[.int .u64 a', .int .u64 b', .int .u64 c', .int .u64 d'] (0 * 1) a' rfl, part_u64 w #[.int .u64 a', .int .u64 b', .int .u64 c', .int .u64 d'] (1 * 1) b' rfl, part_u64 w #[.int .u64 a', .int .u64 b', .int .u64 c', .int .u64 d'] (2 * 1) c' rfl, part_u64 w #[.int .u64 a', .int .u64 b', .int .u64 c', .int .u64 d'] (3 * 1) d' rfl, run_eq_u64, Result.andThen_ok, Sem.run_ite, Sem.run_pure]
  cases a == a' <;> cases b == b' <;> cases c == c' <;> cases d == d' <;> simp
end Go.Proofs.YtndhbdbfjkmloaaDoor
