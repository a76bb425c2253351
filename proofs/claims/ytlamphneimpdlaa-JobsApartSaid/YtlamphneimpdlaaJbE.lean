/- Jobs: two states compared; a built job; how what jobs.Run answers is read. -/
import Derived.Test.YtlamphneimpdlaaJbD
import Derived.Test.YtlamphneimpdlaaLsY
namespace Go.Proofs.Ytlamphneimpdlaa
open Go.RowKit

/-- a state in a row of states, and what it has found -/
structure StAt (w : World) (V : Option Addr) (i : Nat) (x : Jst) : Prop where
  at_ : ∃ (ad : Addr) (V0 : Option Addr) (c0 : Nat), V = some ad ∧ ad.block < w.heap.size ∧ (∀ u v, (stC (V0, c0) x)[u]? = some v → w.cell? (ad.add (i * 4 + u)) = some v) ∧ Reads w w.heap.size 1 V0 x.found.length (x.found.map Value.string)
theorem stF_get {Vs : Nat → Option Addr × Nat} {st : Nat → Jst} : ∀ {k i : Nat}, i < k → ∀ {u : Nat} {v : Value}, (stC (Vs i) (st i))[u]? = some v → (stF Vs st k)[i * 4 + u]? = some v := fun {k i} hi {u v} hu => by
  have h4 : ∀ k, (stF Vs st k).length = k * 4 := by
    intro k
    induction k with
    | zero => rfl
    | succ k ih =>
      unfold stF at ih ⊢
      rw [List.range_succ, List.flatMap_append, List.length_append, ih]
      simp [stC]
      omega
  have hu4 : u < 4 := by simpa [stC] using getElem?_lt hu
  induction k with
  | zero => omega
  | succ k ih =>
    have hs : stF Vs st (k + 1) = stF Vs st k ++ stC (Vs k) (st k) := by unfold stF; rw [List.range_succ, List.flatMap_append]; simp
    rw [hs]
    by_cases h : i < k
    · rw [List.getElem?_append_left (by rw [h4]; omega)]
      exact ih h
    · obtain rfl : i = k := by omega
      rw [List.getElem?_append_right (by rw [h4]; omega), h4, show i * 4 + u - i * 4 = u by omega]
      exact hu
theorem StAt.of_row {w : World} {B n : Nat} {V : Option Addr} {c : Nat} {Vs : Nat → Option Addr × Nat} {st : Nat → Jst} (h : w.ownsRow B 75 4 (.slice V n c) n (stF Vs st n)) (hf : ∀ i, i < n → w.ownsRow B 9 1 (fnV (Vs i) (st i)) (st i).found.length ((st i).found.map Value.string)) {i : Nat} (hi : i < n) : StAt w V i (st i) := by
  obtain ⟨ad, rfl, hb, hc⟩ := (Reads.of_own h).lies (by omega)
  exact ⟨ad, (Vs i).1, (Vs i).2, rfl, hb, fun u v hu => hc _ _ (stF_get hi hu), Reads.of_own (hf i hi)⟩
theorem StAt.below {w w' : World} {V : Option Addr} {i : Nat} {x : Jst} (h : StAt w V i x) (hb : Below w.heap.size w w') : StAt w' V i x := by
  obtain ⟨ad, V0, c0, h1, h2, h3, h4⟩ := h.at_
  exact ⟨ad, V0, c0, h1, Nat.lt_of_lt_of_le h2 hb.size, fun u v hu => by rw [hb.cell (by rw [add_block]; exact h2)]; exact h3 u v hu, (h4.below hb).more hb.size⟩

theorem job_one {js : List Jb} {s r : Int} (h : JobsOk js s r) {j : Jb} (hj : j ∈ js) : JobsOk [j] s r :=
  ⟨by simp, h.2.1, fun j' h' => by simp only [List.mem_singleton] at h'; subst h'; exact h.2.2 _ hj⟩
theorem st_one {js : List Jb} {s r i : Nat} {j : Jb} (hj : js[i]? = some j) : stR [j] s r 0 = stR js s r i := by simp [stR, hj]
/-- jobs.Run, read: all states -/
theorem jruns_any {js : List Jb} {LA : Option Addr} {lc : Nat} {w : World} (hin : ∀ j ∈ js, j.In w) (hr : Reads w w.heap.size 4 LA js.length (js.flatMap Jb.cells)) (s r : Int) (hrr : I64 r) :
    Calls Try.prog 36 #[.slice LA js.length lc, .int .i64 s, .int .i64 r] w fun e w' => Below w.heap.size w w' ∧
      ((¬ JobsOk js s r ∧ ∃ x, x ≠ 0 ∧ e = .returned (.tuple #[.slice none 0 0, .int .i64 x])) ∨
       (JobsOk js s r ∧ ∃ V c, e = .returned (.tuple #[.slice V js.length c, .int .i64 0]) ∧ ∀ i, i < js.length → StAt w' V i (stR js s.toNat r.toNat i))) := by
  refine (jrun_any hin hr s r hrr).mono ?_
  rintro e w' ⟨hb, h | ⟨h1, V, c, Vs, he, ho, hf⟩⟩
  · exact ⟨hb, .inl h⟩
  · exact ⟨hb, .inr ⟨h1, V, c, he, fun i hi => .of_row ho hf hi⟩⟩
/-- of one job alone -/
theorem jrun1_any {j : Jb} {LA : Option Addr} {lc : Nat} {w : World} (hin : j.In w) (hr : Reads w w.heap.size 4 LA 1 j.cells) (s r : Int) (hrr : I64 r) (hok : JobsOk [j] s r) :
    Calls Try.prog 36 #[.slice LA 1 lc, .int .i64 s, .int .i64 r] w fun e w' => Below w.heap.size w w' ∧ ∃ V c, e = .returned (.tuple #[.slice V 1 c, .int .i64 0]) ∧ StAt w' V 0 (stR [j] s.toNat r.toNat 0) := by
  refine (jruns_any (js := [j]) (fun j' h => by simp only [List.mem_singleton] at h; subst h; exact hin) (by simpa using hr) s r hrr).mono ?_
  rintro e w' ⟨hb, ⟨h, _⟩ | ⟨h1, V, c, he, hf⟩⟩
  · exact absurd hok h
  · exact ⟨hb, V, c, he, hf 0 (by simp)⟩
def xJob (b : Nat) (row : Nat → List Value) : Jb := ⟨some ⟨b, 0, none⟩, xG, 1, row, ⟨#[120]⟩, 1, 9⟩
theorem xjob_in {W : World} {b : Nat} {row : Nat → List Value} (hG : GrIs W W.heap.size xG (some ⟨b, 0, none⟩) 1 row) : (xJob b row).In W := ⟨hG, wf_g1 (wf_lit _), (by decide : (1 : Nat) ≤ 140737488351232), (⟨by decide, by decide⟩ : I64 1), (⟨by decide, by decide⟩ : I64 9)⟩
theorem xjob_ok (b : Nat) (row : Nat → List Value) (r : Int) (h : 0 ≤ r ∧ r ≤ 1000) : JobsOk [xJob b row] 1 r := ⟨by simp, ⟨by decide, by decide, h.1, h.2⟩, fun j hj => by
  simp only [List.mem_singleton] at hj
  subst hj
  exact ⟨x_lookok, (by decide : (0 : Int) ≤ 9), (by decide : (9 : Int) ≤ 1048576)⟩⟩
/-- the built job's row: one job -/
theorem xrun_any {W : World} {b : Nat} {row : Nat → List Value} (hG : GrIs W W.heap.size xG (some ⟨b, 0, none⟩) 1 row) (r : Int) (h : 0 ≤ r ∧ r ≤ 1000) :
    Calls Try.prog 36 #[.slice (some ⟨W.heap.size, 0, none⟩) 1 1, .int .i64 1, .int .i64 r] (W.alloc (.cells #[.slice (some ⟨b, 0, none⟩) 1 1, .string ⟨#[120]⟩, .int .i64 1, .int .i64 9] 73)) fun e w' => Below W.heap.size W w' ∧ ∃ V c, e = .returned (.tuple #[.slice V 1 c, .int .i64 0]) ∧ StAt w' V 0 (turnsJ (accG xG) [120] 1 1 r.toNat (startJ 9)) := by
  have hB : Blk (W.alloc (.cells #[.slice (some ⟨b, 0, none⟩) 1 1, .string ⟨#[120]⟩, .int .i64 1, .int .i64 9] 73)) W.heap.size 73 #[.slice (some ⟨b, 0, none⟩) 1 1, .string ⟨#[120]⟩, .int .i64 1, .int .i64 9] := blk_at rfl
  have hb1 := (Below.refl W.heap.size W).alloc (Nat.le_refl _) (.cells #[.slice (some ⟨b, 0, none⟩) 1 1, .string ⟨#[120]⟩, .int .i64 1, .int .i64 9] 73)
  refine (jrun1_any (j := xJob b row) ((xjob_in hG).grow hb1) ⟨by simp [xJob, Jb.cells], fun _ => ⟨⟨W.heap.size, 0, none⟩, rfl, hB.lt, fun j u hu => ?_⟩⟩ 1 r ⟨by omega, by omega⟩ (xjob_ok b row r h)).mono ?_
  · rw [cell_add, hB.cell, ← Array.getElem?_toList]
    exact hu
  · rintro e w' ⟨hb, V, c, he, hs⟩
    exact ⟨hb1.trans (hb.mono (by simp)), V, c, he, hs⟩

set_option maxRecDepth 100000 in
theorem samest_any {w : World} {B B' : Nat} {x : Jst} {V V' : Option Addr} {c c' : Nat} (h : Reads w B 1 V x.found.length (x.found.map Value.string)) (h' : Reads w B' 1 V' x.found.length (x.found.map Value.string)) (hB : B ≤ w.heap.size) (hB' : B' ≤ w.heap.size) (hl : x.found.length ≤ 4611686018427387904) :
    Calls Try.prog 38 #[.agg #[.slice V x.found.length c, .string x.cur.1, .bool x.cur.2, .int .i64 x.left], .agg #[.slice V' x.found.length c', .string x.cur.1, .bool x.cur.2, .int .i64 x.left]] w fun e w' => e = .returned (.bool true) ∧ Below w.heap.size w w' := by
  have heq := fun W (hW : Below w.heap.size w W) => equalS_any V V' x.found.length c x.found.length c' x.found x.found w.heap.size w.heap.size W ((h.more hB).below hW) ((h'.more hB').below hW) hl hl
  rw [decide_eq_true rfl] at heq
  have HE := Lib.hid heq
  have hsc := run_same_cur
  clear heq h h'
  generalize x.found.length = n at HE ⊢
  generalize x.cur.1 = s
  generalize x.cur.2 = o
  generalize ((x.left : Nat) : Int) = l
  go_enter Try.func38, Try.ntmps38
  go_wp2_with fail
  refine (HE.out _ (by repeat (first | exact Below.refl _ _ | assumption | refine Below.drew ?_ | refine below_drewN ?_ _ | refine Below.alloc ?_ (by first | omega | (simp; omega) | simp) _ | refine Below.setCell ?_ (by first | omega | (simp; omega) | simp) _))).mono ?_
  rintro e w1 ⟨rfl, d, rfl⟩
  have hq : (decide (s.data.toList = s.data.toList) && o == o) = true := by simp
  go_wp2
  go_ret
  exact ⟨ret_bool (by simp), (by repeat (first | exact Below.refl _ _ | assumption | refine Below.drew ?_ | refine below_drewN ?_ _ | refine Below.alloc ?_ (by first | omega | (simp; omega) | simp) _ | refine Below.setCell ?_ (by first | omega | (simp; omega) | simp) _))⟩
end Go.Proofs.Ytlamphneimpdlaa
