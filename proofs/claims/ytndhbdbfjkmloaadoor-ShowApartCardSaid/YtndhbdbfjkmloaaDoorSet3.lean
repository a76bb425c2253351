/- What set.Not and set.Range answer. -/
import Derived.Test.YtndhbdbfjkmloaaDoorSet2
namespace Go.Proofs.YtndhbdbfjkmloaaDoor
open Go.RowKit

theorem not_any (s : S4) (w : World) : Calls Tryd.prog 134 #[s.val] w fun e w' => e = .returned (S4.map2 (fun x _ => notU x) s s).val ∧ Below w.heap.size w w' := by
  have hc := both_not s s
  have HC := Lib.hid hc
  clear hc
  unfold S4.val at HC ⊢
  go_enter Tryd.func134, Tryd.ntmps134
  go_wp2_with fail
  refine (HC.out _).mono ?_
  rintro e w1 ⟨rfl, hb1⟩
  have hz : Blk w1 (w.heap.size + 1) 24 #[.int .u64 0, .int .u64 0, .int .u64 0, .int .u64 0] := (blk_at (by simp)).below hb1 (by simp)
  have hw1 : Below w.heap.size w w1 := Below.trans (by repeat (first | exact Below.refl _ _ | assumption | refine Below.drew ?_ | refine below_drewN ?_ _ | refine Below.alloc ?_ (by first | omega | (simp; omega) | simp) _ | refine Below.setCell ?_ (by first | omega | (simp; omega) | simp) _)) (hb1.mono (by first | omega | (simp; omega) | simp))
  have hz1 := hw1.size
  clear hb1
  have z0 : w1.cell? ⟨w.heap.size + 1, 0, none⟩ = some (.int .u64 0) := hz.cell 0
  have z1 : w1.cell? ⟨w.heap.size + 1, 1, none⟩ = some (.int .u64 0) := hz.cell 1
  have z2 : w1.cell? ⟨w.heap.size + 1, 2, none⟩ = some (.int .u64 0) := hz.cell 2
  have z3 : w1.cell? ⟨w.heap.size + 1, 3, none⟩ = some (.int .u64 0) := hz.cell 3
  have f0 := hz.frozen 0
  have f1 := hz.frozen 1
  have f2 := hz.frozen 2
  have f3 := hz.frozen 3
  have e0 : (w1.setCell ⟨w.heap.size + 1, 0, none⟩ (.int .u64 (notU s.a))).cell? ⟨w.heap.size + 1, 0, none⟩ = some (.int .u64 (notU s.a)) := (hz.set_ 0 _).cell 0
  have e1 : ((w1.setCell ⟨w.heap.size + 1, 0, none⟩ (.int .u64 (notU s.a))).setCell ⟨w.heap.size + 1, 1, none⟩ (.int .u64 (notU s.b))).cell? ⟨w.heap.size + 1, 1, none⟩ = some (.int .u64 (notU s.b)) := ((hz.set_ 0 _).set_ 1 _).cell 1
  have e2 : (((w1.setCell ⟨w.heap.size + 1, 0, none⟩ (.int .u64 (notU s.a))).setCell ⟨w.heap.size + 1, 1, none⟩ (.int .u64 (notU s.b))).setCell ⟨w.heap.size + 1, 2, none⟩ (.int .u64 (notU s.c))).cell? ⟨w.heap.size + 1, 2, none⟩ = some (.int .u64 (notU s.c)) := (((hz.set_ 0 _).set_ 1 _).set_ 2 _).cell 2
  have e3 : ((((w1.setCell ⟨w.heap.size + 1, 0, none⟩ (.int .u64 (notU s.a))).setCell ⟨w.heap.size + 1, 1, none⟩ (.int .u64 (notU s.b))).setCell ⟨w.heap.size + 1, 2, none⟩ (.int .u64 (notU s.c))).setCell ⟨w.heap.size + 1, 3, none⟩ (.int .u64 (notU s.d))).cell? ⟨w.heap.size + 1, 3, none⟩ = some (.int .u64 (notU s.d)) := ((((hz.set_ 0 _).set_ 1 _).set_ 2 _).set_ 3 _).cell 3
  unfold S4.map2 at *
  go_wp2
  exact bodyPost_ret (v := .agg #[.int .u64 (notU s.a), .int .u64 (notU s.b), .int .u64 (notU s.c), .int .u64 (notU s.d)]) (by simp [results, Tryd.results134, go_sem, e0, e1, e2, e3]) rfl ⟨rfl, (by repeat (first | exact Below.refl _ _ | assumption | refine Below.drew ?_ | refine below_drewN ?_ _ | refine Below.alloc ?_ (by first | omega | (simp; omega) | simp) _ | refine Below.setCell ?_ (by first | omega | (simp; omega) | simp) _))⟩

/-- the words of set.Range behind so many rounds from lo on -/
def rangeL (lo : Nat) : Nat → List Nat
  | 0 => [0, 0, 0, 0]
  | k + 1 => (rangeL lo k).set ((lo + k) / 64) ((rangeL lo k).getD ((lo + k) / 64) 0 ||| 2 ^ ((lo + k) % 64))
def words (l : List Nat) : Array Value := (l.map fun x : Nat => Value.int .u64 x).toArray

theorem four_of {l : List Nat} (h : l.length = 4) : ∃ x0 x1 x2 x3, l = [x0, x1, x2, x3] :=
  match l, h with
  | [x0, x1, x2, x3], _ => ⟨x0, x1, x2, x3, rfl⟩
theorem rangeL_len (lo : Nat) : ∀ k, (rangeL lo k).length = 4
  | 0 => rfl
  | k + 1 => by rw [rangeL, List.length_set, rangeL_len lo k]
theorem words_size (l : List Nat) : (words l).size = l.length := by simp [words]
theorem words_get {l : List Nat} {i : Nat} (h : i < l.length) : (words l)[i]? = some (.int .u64 ((l.getD i 0 : Nat) : Int)) := by
  simp [words, h]
theorem words_set (l : List Nat) (i : Nat) (x : Nat) : (words l).setIfInBounds i (.int .u64 (x : Int)) = words (l.set i x) := by
  simp [words, List.map_set]

theorem and63 (b : Nat) (h : b < 256) : bits .and .i64 (b : Int) 63 = ((b % 64 : Nat) : Int) := by
  have h' : ∀ b : Fin 256, bits .and .i64 ((b : Nat) : Int) 63 = (((b : Nat) % 64 : Nat) : Int) := by decide +kernel
  exact h' ⟨b, h⟩

theorem or_bit {x r : Nat} (hx : x < 18446744073709551616) (hr : r < 64) : bits .or .u64 (x : Int) (IntKind.u64.wrap (2 ^ r)) = ((x ||| 2 ^ r : Nat) : Int) := by
  have h2 : (2 : Nat) ^ r < 18446744073709551616 := by
    have : (2 : Nat) ^ r < 2 ^ 64 := Nat.pow_lt_pow_right (by omega) hr
    simpa using this
  have h3 : IntKind.u64.wrap (2 ^ r) = ((2 ^ r : Nat) : Int) := by
    rw [show ((2 : Int) ^ r) = ((2 ^ r : Nat) : Int) by simp]
    generalize 2 ^ r = p at *
    rw [IntKind.wrap_u64]
    omega
  rw [h3, u64_or_nat x (2 ^ r) hx h2]
theorem rangeL_lt (lo : Nat) : ∀ k i, (rangeL lo k).getD i 0 < 18446744073709551616
  | 0, i => by
    match i with
    | 0 => show 0 < 18446744073709551616; decide
    | 1 => show 0 < 18446744073709551616; decide
    | 2 => show 0 < 18446744073709551616; decide
    | 3 => show 0 < 18446744073709551616; decide
    | i + 4 => simp [rangeL]
  | k + 1, i => by
    have ih := rangeL_lt lo k
    rw [rangeL, List.getD_eq_getElem?_getD, List.getElem?_set]
    split
    · split
      · have h1 : (2 : Nat) ^ ((lo + k) % 64) < 2 ^ 64 := Nat.pow_lt_pow_right (by omega) (Nat.mod_lt _ (by omega))
        have h2 := ih ((lo + k) / 64)
        have := Nat.or_lt_two_pow (n := 64) (by simpa using h2) h1
        simpa using this
      · simp
    · have := ih i
      rwa [List.getD_eq_getElem?_getD] at this

set_option maxHeartbeats 1600000 in
theorem range_any (low high : Int) (w : World) (h1 : I64 low) (h2 : I64 high) (lo n : Nat) (hlo : (low ≤ 0 ∧ lo = 0) ∨ (low = lo ∧ 0 < lo)) (hn : n = (min 255 high + 1 - lo).toNat) :
    Calls Tryd.prog 56 #[.int .i64 low, .int .i64 high] w fun e w' => e = .returned (.agg (words (rangeL lo n))) ∧ Below w.heap.size w w' := by
  obtain ⟨h1a, h1b⟩ := h1
  obtain ⟨h2a, h2b⟩ := h2
  have hn1 : n = 0 ∨ (lo : Int) + n ≤ 256 := by omega
  have HN := Lib.hid hn
  clear hn
  have h0 : Hid (low ≤ 0 → lo = 0) := fun h => by omega
  rcases (show low ≤ 0 ∨ (low = lo ∧ 0 < lo) by omega) with hlo | ⟨rfl, hlo⟩
  all_goals
    go_enter Tryd.func56, Tryd.ntmps56
    go_wp2
    go_loopw [5] (fun i wr => ∃ b k : Nat, b = lo + k ∧ k ≤ n ∧ i = .int .i64 b ∧ Blk wr w.heap.size 24 (words (rangeL lo k)) ∧ Below w.heap.size w wr) (fun i _ => 300 - (intOf i).toNat)
    case atStart => exact ⟨lo, 0, rfl, by omega, by first | rfl | (rw [h0.out hlo]; rfl) | (rw [h0.out hlo, Int.max_eq_left hlo]; rfl) | (rw [Int.max_eq_right (by omega)]), blk_at rfl, (by repeat (first | exact Below.refl _ _ | assumption | refine Below.drew ?_ | refine below_drewN ?_ _ | refine Below.alloc ?_ (by first | omega | (simp; omega) | simp) _ | refine Below.setCell ?_ (by first | omega | (simp; omega) | simp) _))⟩
    case round =>
      obtain ⟨b, k, hbk, hk, rfl, hb, hbw⟩ := hrel
      have HBK := Lib.hid hbk
      by_cases hkn : k < n
      · have hb256 : b < 256 := by omega
        have hle : (b : Int) ≤ min 255 high := by have := HN.out; omega
        have hl := rangeL_len lo k
        obtain ⟨q, r, hq, hr, hr64, hq4, hqn, hrn⟩ : ∃ q r : Nat, (b : Int) / 64 = q ∧ bits .and .i64 (b : Int) 63 = r ∧ r < 64 ∧ q < 4 ∧ (lo + k) / 64 = q ∧ (lo + k) % 64 = r :=
          ⟨b / 64, b % 64, by omega, by rw [and63 b hb256], by omega, by omega, by omega, by omega⟩
        have HQ := Lib.hid hqn
        have HR := Lib.hid hrn
        have hc := hb.cell q
        have hf := hb.frozen q
        rw [words_get (by omega)] at hc
        generalize hx : (rangeL lo k).getD q 0 = x at hc
        have HX := Lib.hid hx
        have HL := Lib.hid hl
        clear hx hl hbk hqn hrn
        by_cases hh : high < 255
        · go_wp2
          go_region
          all_goals
            go_wp2
            go_roundw
            case rel =>
              refine ⟨b + 1, k + 1, by have := HBK.out; omega, by omega, by go_num, ?_, (hbw.drew).setCell (Nat.le_refl _) _⟩
              have h := (hb.drew).set_ q (.int .u64 ((x ||| 2 ^ r : Nat) : Int))
              rw [words_set, ← HX.out, ← HQ.out, ← HR.out] at h
              rw [or_bit (by rw [← HX.out]; exact rangeL_lt lo k q) hr64, ← HX.out]
              rw [← HQ.out, ← HR.out]
              exact h
            case measure => simp [intOf]; omega
        · go_wp2
          go_region
          all_goals
            go_wp2
            go_roundw
            case rel =>
              refine ⟨b + 1, k + 1, by have := HBK.out; omega, by omega, by go_num, ?_, (hbw.drew).setCell (Nat.le_refl _) _⟩
              have h := (hb.drew).set_ q (.int .u64 ((x ||| 2 ^ r : Nat) : Int))
              rw [words_set, ← HX.out, ← HQ.out, ← HR.out] at h
              rw [or_bit (by rw [← HX.out]; exact rangeL_lt lo k q) hr64, ← HX.out]
              rw [← HQ.out, ← HR.out]
              exact h
            case measure => simp [intOf]; omega
      · obtain rfl : k = n := by omega
        have hl := rangeL_len lo k
        have hgt : min 255 high < b := by have := HN.out; have := HBK.out; omega
        obtain ⟨x0, x1, x2, x3, hL⟩ := four_of hl
        rw [hL] at hb
        have HLL := Lib.hid hL
        clear hL hl
        have c0 : wr.cell? ⟨w.heap.size, 0, none⟩ = some (.int .u64 x0) := hb.cell 0
        have c1 : wr.cell? ⟨w.heap.size, 1, none⟩ = some (.int .u64 x1) := hb.cell 1
        have c2 : wr.cell? ⟨w.heap.size, 2, none⟩ = some (.int .u64 x2) := hb.cell 2
        have c3 : wr.cell? ⟨w.heap.size, 3, none⟩ = some (.int .u64 x3) := hb.cell 3
        have f0 := hb.frozen 0
        have f1 := hb.frozen 1
        have f2 := hb.frozen 2
        have f3 := hb.frozen 3
        have e0 : (wr.setCell ⟨w.heap.size, 0, none⟩ (.int .u64 (x0 : Int))).cell? ⟨w.heap.size, 0, none⟩ = some (.int .u64 (x0 : Int)) := (hb.set_ 0 _).cell 0
        have e1 : ((wr.setCell ⟨w.heap.size, 0, none⟩ (.int .u64 (x0 : Int))).setCell ⟨w.heap.size, 1, none⟩ (.int .u64 (x1 : Int))).cell? ⟨w.heap.size, 1, none⟩ = some (.int .u64 (x1 : Int)) := ((hb.set_ 0 _).set_ 1 _).cell 1
        have e2 : (((wr.setCell ⟨w.heap.size, 0, none⟩ (.int .u64 (x0 : Int))).setCell ⟨w.heap.size, 1, none⟩ (.int .u64 (x1 : Int))).setCell ⟨w.heap.size, 2, none⟩ (.int .u64 (x2 : Int))).cell? ⟨w.heap.size, 2, none⟩ = some (.int .u64 (x2 : Int)) := (((hb.set_ 0 _).set_ 1 _).set_ 2 _).cell 2
        have e3 : ((((wr.setCell ⟨w.heap.size, 0, none⟩ (.int .u64 (x0 : Int))).setCell ⟨w.heap.size, 1, none⟩ (.int .u64 (x1 : Int))).setCell ⟨w.heap.size, 2, none⟩ (.int .u64 (x2 : Int))).setCell ⟨w.heap.size, 3, none⟩ (.int .u64 (x3 : Int))).cell? ⟨w.heap.size, 3, none⟩ = some (.int .u64 (x3 : Int)) := ((((hb.set_ 0 _).set_ 1 _).set_ 2 _).set_ 3 _).cell 3
        by_cases hh : high < 255
        all_goals
          go_wp2
          exact bodyPost_ret (v := .agg #[.int .u64 x0, .int .u64 x1, .int .u64 x2, .int .u64 x3]) (by simp [results, Tryd.results56, go_sem, e0, e1, e2, e3]) rfl ⟨by rw [HLL.out]; rfl, (by repeat (first | exact Below.refl _ _ | assumption | refine Below.drew ?_ | refine below_drewN ?_ _ | refine Below.alloc ?_ (by first | omega | (simp; omega) | simp) _ | refine Below.setCell ?_ (by first | omega | (simp; omega) | simp) _))⟩
end Go.Proofs.YtndhbdbfjkmloaaDoor
