/- What set.Join and set.Meet answer. -/
import Derived.Test.YtndhbdbfjkmloaaDoorSet1
namespace Go.Proofs.YtndhbdbfjkmloaaDoor
open Go.RowKit

theorem join_any (s t : S4) (w : World) : Calls Tryd.prog 135 #[s.val, t.val] w fun e w' => e = .returned (S4.map2 orU s t).val ∧ Below w.heap.size w w' := by
  have hc := both_join s t
  have HC := Lib.hid hc
  clear hc
  unfold S4.val at HC ⊢
  go_enter Tryd.func135, Tryd.ntmps135
  go_wp2_with fail
  refine (HC.out _).mono ?_
  rintro e w1 ⟨rfl, hb1⟩
  have hz : Blk w1 (w.heap.size + 1 + 1) 24 #[.int .u64 0, .int .u64 0, .int .u64 0, .int .u64 0] := (blk_at (by simp)).below hb1 (by simp)
  have hw1 : Below w.heap.size w w1 := Below.trans (by repeat (first | exact Below.refl _ _ | assumption | refine Below.drew ?_ | refine below_drewN ?_ _ | refine Below.alloc ?_ (by first | omega | (simp; omega) | simp) _ | refine Below.setCell ?_ (by first | omega | (simp; omega) | simp) _)) (hb1.mono (by first | omega | (simp; omega) | simp))
  have hz1 := hw1.size
  clear hb1
  have z0 : w1.cell? ⟨w.heap.size + 1 + 1, 0, none⟩ = some (.int .u64 0) := hz.cell 0
  have z1 : w1.cell? ⟨w.heap.size + 1 + 1, 1, none⟩ = some (.int .u64 0) := hz.cell 1
  have z2 : w1.cell? ⟨w.heap.size + 1 + 1, 2, none⟩ = some (.int .u64 0) := hz.cell 2
  have z3 : w1.cell? ⟨w.heap.size + 1 + 1, 3, none⟩ = some (.int .u64 0) := hz.cell 3
  have f0 := hz.frozen 0
  have f1 := hz.frozen 1
  have f2 := hz.frozen 2
  have f3 := hz.frozen 3
  have e0 : (w1.setCell ⟨w.heap.size + 1 + 1, 0, none⟩ (.int .u64 (orU s.a t.a))).cell? ⟨w.heap.size + 1 + 1, 0, none⟩ = some (.int .u64 (orU s.a t.a)) := (hz.set_ 0 _).cell 0
  have e1 : ((w1.setCell ⟨w.heap.size + 1 + 1, 0, none⟩ (.int .u64 (orU s.a t.a))).setCell ⟨w.heap.size + 1 + 1, 1, none⟩ (.int .u64 (orU s.b t.b))).cell? ⟨w.heap.size + 1 + 1, 1, none⟩ = some (.int .u64 (orU s.b t.b)) := ((hz.set_ 0 _).set_ 1 _).cell 1
  have e2 : (((w1.setCell ⟨w.heap.size + 1 + 1, 0, none⟩ (.int .u64 (orU s.a t.a))).setCell ⟨w.heap.size + 1 + 1, 1, none⟩ (.int .u64 (orU s.b t.b))).setCell ⟨w.heap.size + 1 + 1, 2, none⟩ (.int .u64 (orU s.c t.c))).cell? ⟨w.heap.size + 1 + 1, 2, none⟩ = some (.int .u64 (orU s.c t.c)) := (((hz.set_ 0 _).set_ 1 _).set_ 2 _).cell 2
  have e3 : ((((w1.setCell ⟨w.heap.size + 1 + 1, 0, none⟩ (.int .u64 (orU s.a t.a))).setCell ⟨w.heap.size + 1 + 1, 1, none⟩ (.int .u64 (orU s.b t.b))).setCell ⟨w.heap.size + 1 + 1, 2, none⟩ (.int .u64 (orU s.c t.c))).setCell ⟨w.heap.size + 1 + 1, 3, none⟩ (.int .u64 (orU s.d t.d))).cell? ⟨w.heap.size + 1 + 1, 3, none⟩ = some (.int .u64 (orU s.d t.d)) := ((((hz.set_ 0 _).set_ 1 _).set_ 2 _).set_ 3 _).cell 3
  unfold S4.map2 at *
  go_wp2
  exact bodyPost_ret (v := .agg #[.int .u64 (orU s.a t.a), .int .u64 (orU s.b t.b), .int .u64 (orU s.c t.c), .int .u64 (orU s.d t.d)]) (by simp [results, Tryd.results135, go_sem, e0, e1, e2, e3]) rfl ⟨rfl, (by repeat (first | exact Below.refl _ _ | assumption | refine Below.drew ?_ | refine below_drewN ?_ _ | refine Below.alloc ?_ (by first | omega | (simp; omega) | simp) _ | refine Below.setCell ?_ (by first | omega | (simp; omega) | simp) _))⟩
end Go.Proofs.YtndhbdbfjkmloaaDoor
