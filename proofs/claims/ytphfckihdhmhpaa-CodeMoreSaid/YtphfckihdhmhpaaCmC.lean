/- What code.jumps and code.Check answer. -/
import Derived.Test.YtphfckihdhmhpaaCmP
import Derived.Test.YtphfckihdhmhpaaGA
import Derived.Test.YtphfckihdhmhpaaGB
namespace Go.Proofs.Ytphfckihdhmhpaa
open Go.RowKit

set_option maxRecDepth 100000 in
theorem jumps_any (op : Int) (w : World) : Calls Try.prog 75 #[.int .i64 op] w fun e w' => e = .returned (.bool (jumpsB op)) ∧ w = w' := by
  by_cases h : op = 2 ∨ op = 3 ∨ op = 4 ∨ op = 5 ∨ op = 9 ∨ op = 10
  · have HJ : Hid (jumpsB op = true) := decide_eq_true h
    rw [HJ.out]
    clear HJ
    rcases h with rfl | rfl | rfl | rfl | rfl | rfl
    all_goals
      go_enter Try.func75, Try.ntmps75
      go_wp2
      go_ret
      exact ⟨rfl, rfl⟩
  · have HJ : Hid (jumpsB op = false) := decide_eq_false h
    rw [HJ.out]
    clear HJ
    have h2 : (op == 2) = false := by rw [beq_eq_false_iff_ne]; omega
    have h3 : (op == 3) = false := by rw [beq_eq_false_iff_ne]; omega
    have h4 : (op == 4) = false := by rw [beq_eq_false_iff_ne]; omega
    have h5 : (op == 5) = false := by rw [beq_eq_false_iff_ne]; omega
    have h9 : (op == 9) = false := by rw [beq_eq_false_iff_ne]; omega
    have h10 : (op == 10) = false := by rw [beq_eq_false_iff_ne]; omega
    clear h
    go_enter Try.func75, Try.ntmps75
    go_wp2
    go_ret
    exact ⟨rfl, rfl⟩

/-- the cells of instructions -/
def inCells (l : List In) : List Value := l.flatMap fun x => [.int .i64 x.op, .int .i64 x.n, .int .u64 (x.a : Int), .int .u64 (x.b : Int), .int .u64 (x.c : Int), .int .u64 (x.d : Int)]
theorem inCells_len : ∀ l : List In, (inCells l).length = l.length * 6
  | [] => rfl
  | v :: l => by
    have := inCells_len l
    unfold inCells at this ⊢
    rw [List.flatMap_cons, List.length_append, this]
    simp; omega
theorem inCells_get : ∀ (l : List In) (j : Nat) (x : In), l[j]? = some x → ∀ i u, [Value.int .i64 x.op, .int .i64 x.n, .int .u64 (x.a : Int), .int .u64 (x.b : Int), .int .u64 (x.c : Int), .int .u64 (x.d : Int)][i]? = some u → (inCells l)[j * 6 + i]? = some u
  | [], j, v, h => by simp at h
  | x :: l, 0, v, h => fun i u hu => by
    simp at h
    subst h
    unfold inCells
    rw [List.flatMap_cons, Nat.zero_mul, Nat.zero_add, List.getElem?_append_left (getElem?_lt hu)]
    exact hu
  | x :: l, j + 1, v, h => fun i u hu => by
    have ih := inCells_get l j v (by simpa using h) i u hu
    unfold inCells at ih ⊢
    rw [List.flatMap_cons, List.getElem?_append_right (by simp; omega)]
    simp only [List.length_cons, List.length_nil]
    rw [show (j + 1) * 6 + i - (0 + 1 + 1 + 1 + 1 + 1 + 1) = j * 6 + i from by omega]
    exact ih
theorem Reads.in_len {w : World} {B n : Nat} {A : Option Addr} {l : List In} (h : Reads w B 6 A n (inCells l)) : l.length = n := by
  have := h.len
  rw [inCells_len] at this
  omega
theorem Reads.in_at {w : World} {B n j : Nat} {A : Option Addr} {l : List In} (h : Reads w B 6 A n (inCells l)) (hj : j < n) :
    ∃ ad x, A = some ad ∧ (ad.add (j * 6)).block < B ∧ l[j]? = some x ∧ w.cell? (ad.add (j * 6)) = some (.int .i64 x.op) ∧
      w.cell? ⟨(ad.add (j * 6)).block, (ad.add (j * 6)).off + 1, none⟩ = some (.int .i64 x.n) ∧ w.cell? ⟨(ad.add (j * 6)).block, (ad.add (j * 6)).off + 2, none⟩ = some (.int .u64 (x.a : Int)) ∧
      w.cell? ⟨(ad.add (j * 6)).block, (ad.add (j * 6)).off + 3, none⟩ = some (.int .u64 (x.b : Int)) ∧ w.cell? ⟨(ad.add (j * 6)).block, (ad.add (j * 6)).off + 4, none⟩ = some (.int .u64 (x.c : Int)) ∧
      w.cell? ⟨(ad.add (j * 6)).block, (ad.add (j * 6)).off + 5, none⟩ = some (.int .u64 (x.d : Int)) := by
  obtain ⟨ad, rfl, hb, hc⟩ := h.lies (by omega)
  have hl := h.in_len
  have hx : l[j]? = some l[j] := List.getElem?_eq_getElem (by omega)
  have key : ∀ i u, [Value.int .i64 l[j].op, .int .i64 l[j].n, .int .u64 (l[j].a : Int), .int .u64 (l[j].b : Int), .int .u64 (l[j].c : Int), .int .u64 (l[j].d : Int)][i]? = some u → w.cell? ((ad.add (j * 6)).add i) = some u := fun i u hu => by
    rw [add_add']
    exact hc _ u (inCells_get l j _ hx i u hu)
  refine ⟨ad, l[j], rfl, by rw [add_block]; exact hb, hx, ?_, ?_, ?_, ?_, ?_, ?_⟩
  · exact key 0 _ rfl
  · exact key 1 _ rfl
  · exact key 2 _ rfl
  · exact key 3 _ rfl
  · exact key 4 _ rfl
  · exact key 5 _ rfl
end Go.Proofs.Ytphfckihdhmhpaa
