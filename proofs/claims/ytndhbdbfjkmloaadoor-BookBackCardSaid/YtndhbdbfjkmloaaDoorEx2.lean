/- Expressions: what a text of cells says, and what expr.fit answers. -/
import Derived.Test.YtndhbdbfjkmloaaDoorEx1
import Derived.Test.YtndhbdbfjkmloaaDoorSet4
namespace Go.Proofs.YtndhbdbfjkmloaaDoor
open Go.RowKit

/-- how many kids a kind of node may have -/
def lims (k : Int) (t : List UInt8) : Option (Nat × Nat) :=
  if k = 1 ∨ k = 2 then some (0, 0)
  else if k = 3 then (if t ≠ [] ∧ t.length ≤ 12 then some (0, 0) else none)
  else if k = 4 then (if nameB t = true then some (0, 0) else none)
  else if k = 5 ∨ k = 6 then some (2, 8)
  else if 7 ≤ k ∧ k ≤ 11 then some (1, 1)
  else none
def fitB (k a b c d : Int) (t : List UInt8) (n : Nat) : Bool :=
  match lims k t with
  | none => false
  | some (lo, hi) => (decide (k = 3 ∨ k = 4) || decide (t = [])) && (decide (k = 2) || (a == 0 && (b == 0 && (c == 0 && d == 0)))) && decide (lo ≤ n) && decide (n ≤ hi)

/-- an expression's cells -/
def exCells (k a b c d : Int) (t : ByteArray) (A : Option Addr) (n cp : Nat) : List Value := [.int .i64 k, .int .u64 a, .int .u64 b, .int .u64 c, .int .u64 d, .string t, .slice A n cp]

set_option linter.unusedSimpArgs false in
set_option maxHeartbeats 8000000 in
set_option maxRecDepth 100000 in
theorem fit_any (k a b c d : Int) (t : ByteArray) (A : Option Addr) (n cp : Nat) (w : World) :
    Calls Tryd.prog 65 #[.agg #[.int .i64 k, .int .u64 a, .int .u64 b, .int .u64 c, .int .u64 d, .string t, .slice A n cp]] w fun e w' => e = .returned (.bool (fitB k a b c d t.data.toList n)) ∧ Below w.heap.size w w' := by
  have HL := Lib.hid (size_list t)
  have hq := fun w => run_same_set w a b c d 0 0 0 0
  generalize hz : (a == 0 && (b == 0 && (c == 0 && d == 0))) = z at hq
  have HF : Hid (fitB k a b c d t.data.toList n = match lims k t.data.toList with
    | none => false
    | some (lo, hi) => (decide (k = 3 ∨ k = 4) || decide (t.data.toList = [])) && (decide (k = 2) || z) && decide (lo ≤ n) && decide (n ≤ hi)) := by show _ = _; rw [← hz]; rfl
  clear hz
  by_cases h12 : k ∈ [1, 2, 5, 6, 7, 8, 9, 10, 11]
  · simp only [List.mem_cons, List.not_mem_nil, or_false] at h12
    by_cases ht : t.size = 0
    · have he : t.toList = [] := by rw [ByteArray.toList_eq]; exact List.eq_nil_of_length_eq_zero (by rw [HL.out]; exact ht)
      have he' : (!t.toList.isEmpty) = false := by rw [he]; rfl
      have hd : t.data.toList = [] := List.eq_nil_of_length_eq_zero (by rw [HL.out]; exact ht)
      rw [hd] at HF ⊢
      clear he hd
      by_cases hz : k = 2 ∨ z = true
      · by_cases hlo : (if k = 1 ∨ k = 2 then 0 else if k = 5 ∨ k = 6 then 2 else 1) ≤ n
        · rcases h12 with rfl | rfl | rfl | rfl | rfl | rfl | rfl | rfl | rfl <;> simp at hlo hz
          all_goals
            try subst hz
            try subst hlo
            go_enter Tryd.func65, Tryd.ntmps65
            go_wp2
            go_ret
            refine ⟨ret_bool ?_, (by repeat (first | exact Below.refl _ _ | assumption | refine Below.drew ?_ | refine below_drewN ?_ _ | refine Below.alloc ?_ (by first | omega | (simp; omega) | simp) _ | refine Below.setCell ?_ (by first | omega | (simp; omega) | simp) _))⟩
            first | exact HF.out.symm | (rw [HF.out]; simp only [lims, Int.reduceEq, Int.reduceLE, or_false, false_or, or_true, true_or, if_true, if_false, and_self, and_true, true_and]; first | (simp [*]; done) | (simp [*]; omega))
        · rcases h12 with rfl | rfl | rfl | rfl | rfl | rfl | rfl | rfl | rfl <;> simp at hlo hz
          all_goals
            try subst hz
            try subst hlo
            go_enter Tryd.func65, Tryd.ntmps65
            go_wp2
            go_ret
            refine ⟨ret_bool ?_, (by repeat (first | exact Below.refl _ _ | assumption | refine Below.drew ?_ | refine below_drewN ?_ _ | refine Below.alloc ?_ (by first | omega | (simp; omega) | simp) _ | refine Below.setCell ?_ (by first | omega | (simp; omega) | simp) _))⟩
            first | exact HF.out.symm | (rw [HF.out]; simp only [lims, Int.reduceEq, Int.reduceLE, or_false, false_or, or_true, true_or, if_true, if_false, and_self, and_true, true_and]; first | (simp [*]; done) | (simp [*]; omega))
      · obtain rfl : z = false := by cases z <;> simp_all
        rcases h12 with rfl | rfl | rfl | rfl | rfl | rfl | rfl | rfl | rfl <;> simp at hz
        all_goals
          go_enter Tryd.func65, Tryd.ntmps65
          go_wp2
          go_ret
          refine ⟨ret_bool ?_, (by repeat (first | exact Below.refl _ _ | assumption | refine Below.drew ?_ | refine below_drewN ?_ _ | refine Below.alloc ?_ (by first | omega | (simp; omega) | simp) _ | refine Below.setCell ?_ (by first | omega | (simp; omega) | simp) _))⟩
          first | exact HF.out.symm | (rw [HF.out]; simp only [lims, Int.reduceEq, Int.reduceLE, or_false, false_or, or_true, true_or, if_true, if_false, and_self, and_true, true_and]; first | (simp [*]; done) | (simp [*]; omega))
    · have hd : t.data.toList ≠ [] := fun h => ht (by rw [← HL.out, h]; rfl)
      have he : t.toList.isEmpty = false := by rw [ByteArray.toList_eq]; cases h : t.data.toList with
        | nil => exact absurd h hd
        | cons _ _ => rfl
      rcases h12 with rfl | rfl | rfl | rfl | rfl | rfl | rfl | rfl | rfl
      all_goals
        go_enter Tryd.func65, Tryd.ntmps65
        go_wp2
        go_ret
        refine ⟨ret_bool ?_, (by repeat (first | exact Below.refl _ _ | assumption | refine Below.drew ?_ | refine below_drewN ?_ _ | refine Below.alloc ?_ (by first | omega | (simp; omega) | simp) _ | refine Below.setCell ?_ (by first | omega | (simp; omega) | simp) _))⟩
        first | exact HF.out.symm | (rw [HF.out]; simp only [lims, Int.reduceEq, Int.reduceLE, or_false, false_or, or_true, true_or, if_true, if_false, and_self, and_true, true_and]; first | (simp [*]; done) | (simp [*]; omega))
  · simp only [List.mem_cons, List.not_mem_nil, or_false] at h12
    by_cases h3 : k = 3
    · subst h3
      by_cases ht : t.size = 0
      · have he : t.toList = [] := by rw [ByteArray.toList_eq]; exact List.eq_nil_of_length_eq_zero (by rw [HL.out]; exact ht)
        have he' : (!t.toList.isEmpty) = false := by rw [he]; rfl
        have hd : t.data.toList = [] := List.eq_nil_of_length_eq_zero (by rw [HL.out]; exact ht)
        rw [hd] at HF ⊢
        clear hd h12
        rw [show lims 3 [] = none from rfl] at HF
        go_enter Tryd.func65, Tryd.ntmps65
        go_wp2
        go_ret
        refine ⟨ret_bool ?_, (by repeat (first | exact Below.refl _ _ | assumption | refine Below.drew ?_ | refine below_drewN ?_ _ | refine Below.alloc ?_ (by first | omega | (simp; omega) | simp) _ | refine Below.setCell ?_ (by first | omega | (simp; omega) | simp) _))⟩
        first | exact HF.out.symm | (rw [HF.out]; simp only [lims, Int.reduceEq, Int.reduceLE, or_false, false_or, or_true, true_or, if_true, if_false, and_self, and_true, true_and]; first | (simp [*]; done) | (simp [*]; omega))
      · have hd : t.data.toList ≠ [] := fun h => ht (by rw [← HL.out, h]; rfl)
        have he : t.toList.isEmpty = false := by rw [ByteArray.toList_eq]; cases h : t.data.toList with
          | nil => exact absurd h hd
          | cons _ _ => rfl
        have hl : t.data.toList.length = t.size := HL.out
        by_cases h12' : 12 < t.size
        · clear h12
          rw [show lims 3 t.data.toList = none by unfold lims; rw [hl]; simp; omega] at HF
          go_enter Tryd.func65, Tryd.ntmps65
          go_wp2
          go_ret
          refine ⟨ret_bool ?_, (by repeat (first | exact Below.refl _ _ | assumption | refine Below.drew ?_ | refine below_drewN ?_ _ | refine Below.alloc ?_ (by first | omega | (simp; omega) | simp) _ | refine Below.setCell ?_ (by first | omega | (simp; omega) | simp) _))⟩
          first | exact HF.out.symm | (rw [HF.out]; simp only [lims, Int.reduceEq, Int.reduceLE, or_false, false_or, or_true, true_or, if_true, if_false, and_self, and_true, true_and]; first | (simp [*]; done) | (simp [*]; omega))
        · have hle : t.size ≤ 12 := by omega
          clear h12
          rw [show lims 3 t.data.toList = some (0, 0) by unfold lims; rw [hl]; simp; exact ⟨by simpa using hd, hle⟩] at HF
          cases z
          all_goals
            go_enter Tryd.func65, Tryd.ntmps65
            go_wp2
            go_ret
            refine ⟨ret_bool ?_, (by repeat (first | exact Below.refl _ _ | assumption | refine Below.drew ?_ | refine below_drewN ?_ _ | refine Below.alloc ?_ (by first | omega | (simp; omega) | simp) _ | refine Below.setCell ?_ (by first | omega | (simp; omega) | simp) _))⟩
            first | exact HF.out.symm | (rw [HF.out]; simp only [lims, Int.reduceEq, Int.reduceLE, or_false, false_or, or_true, true_or, if_true, if_false, and_self, and_true, true_and]; first | (simp [*]; done) | (simp [*]; omega))
    · by_cases h4 : k = 4
      · subst h4
        clear h12 h3
        cases hn : nameB t.data.toList
        · go_enter Tryd.func65, Tryd.ntmps65
          go_wp2_with (go_at_call 33; refine (name_any _ _).mono ?_; rintro e w' ⟨rfl, rfl⟩)
          go_ret
          refine ⟨ret_bool ?_, (by repeat (first | exact Below.refl _ _ | assumption | refine Below.drew ?_ | refine below_drewN ?_ _ | refine Below.alloc ?_ (by first | omega | (simp; omega) | simp) _ | refine Below.setCell ?_ (by first | omega | (simp; omega) | simp) _))⟩
          first | exact HF.out.symm | (rw [HF.out]; simp only [lims, Int.reduceEq, Int.reduceLE, or_false, false_or, or_true, true_or, if_true, if_false, and_self, and_true, true_and]; first | (simp [*]; done) | (simp [*]; omega))
        · cases z
          all_goals
            go_enter Tryd.func65, Tryd.ntmps65
            go_wp2_with (go_at_call 33; refine (name_any _ _).mono ?_; rintro e w' ⟨rfl, rfl⟩)
            go_ret
            refine ⟨ret_bool ?_, (by repeat (first | exact Below.refl _ _ | assumption | refine Below.drew ?_ | refine below_drewN ?_ _ | refine Below.alloc ?_ (by first | omega | (simp; omega) | simp) _ | refine Below.setCell ?_ (by first | omega | (simp; omega) | simp) _))⟩
            first | exact HF.out.symm | (rw [HF.out]; simp only [lims, Int.reduceEq, Int.reduceLE, or_false, false_or, or_true, true_or, if_true, if_false, and_self, and_true, true_and]; first | (simp [*]; done) | (simp [*]; omega))
      · have hl : lims k t.data.toList = none := by
          unfold lims
          rw [if_neg (by omega), if_neg h3, if_neg h4, if_neg (by omega), if_neg (by omega)]
        rw [hl] at HF
        clear hl
        simp only [not_or] at h12
        obtain ⟨k1, k2, k5, k6, k7, k8, k9, k10, k11⟩ := h12
        go_enter Tryd.func65, Tryd.ntmps65
        go_wp2
        go_ret
        exact ⟨ret_bool HF.out.symm, (by repeat (first | exact Below.refl _ _ | assumption | refine Below.drew ?_ | refine below_drewN ?_ _ | refine Below.alloc ?_ (by first | omega | (simp; omega) | simp) _ | refine Below.setCell ?_ (by first | omega | (simp; omega) | simp) _))⟩
end Go.Proofs.YtndhbdbfjkmloaaDoor
