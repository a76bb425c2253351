/- What set.Not and set.Range answer. What math/bits answers: OnesCount64, TrailingZeros64. What set.Count answers. Classes of bytes, written and read: plain. What quote.Lit and quote.Unlit answer. quote.next does not look behind what it takes. What quote.Unlit answers of a text that begins with a literal. Plain laws: a literal that was written is read as it was. What expr.Name answers. Sets are compared word by word; the walk of the law SetAlgebra. -/
import Derived.Test.YtndhbdbfjkmloaaDoorJReadLeast0
import Derived.Laws.Bits128
import Derived.Lib.IndexBytes
import Derived.Laws.BytesArg
import Derived.Test.YtndhbdbfjkmloaaDoorProg
import Derived.ChangeKeysEq
namespace Go.Proofs.YtndhbdbfjkmloaaDoor
open Go.RowKit

theorem not_any (s : S4) (w : World) : Calls Tryd.prog 134 #[s.val] w fun e w' => e = .returned (S4.map2 (fun x _ => notU x) s s).val ∧ Below w.heap.size w w' := by
  have hc := both_not s s
  have HC := Lib.hid hc
  clear hc
  unfold S4.val at HC ⊢
  go_enter Tryd.func134, Tryd.ntmps134
  go_wp2_with fail
  refine (HC.out _).mono ?_
  rintro e w1 ⟨rfl, hb1⟩
  have hz : Blk w1 (w.heap.size + 1) 24 #[.int .u64 0, .int .u64 0, .int .u64 0, .int .u64 0] := (blk_at (by simp)).below hb1 (by simp)
  have hw1 : Below w.heap.size w w1 := Below.trans (by repeat (first | exact Below.refl _ _ | assumption | refine Below.drew ?_ | refine below_drewN ?_ _ | refine Below.alloc ?_ (by first | omega | (simp; omega) | simp) _ | refine Below.setCell ?_ (by first | omega | (simp; omega) | simp) _)) (hb1.mono (by first | omega | (simp; omega) | simp))
  have hz1 := hw1.size
  clear hb1
  have z0 : w1.cell? ⟨w.heap.size + 1, 0, none⟩ = some (.int .u64 0) := hz.cell 0
  have z1 : w1.cell? ⟨w.heap.size + 1, 1, none⟩ = some (.int .u64 0) := hz.cell 1
  have z2 : w1.cell? ⟨w.heap.size + 1, 2, none⟩ = some (.int .u64 0) := hz.cell 2
  have z3 : w1.cell? ⟨w.heap.size + 1, 3, none⟩ = some (.int .u64 0) := hz.cell 3
  have f0 := hz.frozen 0
  have f1 := hz.frozen 1
  have f2 := hz.frozen 2
  have f3 := hz.frozen 3
  have e0 : (w1.setCell ⟨w.heap.size + 1, 0, none⟩ (.int .u64 (notU s.a))).cell? ⟨w.heap.size + 1, 0, none⟩ = some (.int .u64 (notU s.a)) := (hz.set_ 0 _).cell 0
  have e1 : ((w1.setCell ⟨w.heap.size + 1, 0, none⟩ (.int .u64 (notU s.a))).setCell ⟨w.heap.size + 1, 1, none⟩ (.int .u64 (notU s.b))).cell? ⟨w.heap.size + 1, 1, none⟩ = some (.int .u64 (notU s.b)) := ((hz.set_ 0 _).set_ 1 _).cell 1
  have e2 : (((w1.setCell ⟨w.heap.size + 1, 0, none⟩ (.int .u64 (notU s.a))).setCell ⟨w.heap.size + 1, 1, none⟩ (.int .u64 (notU s.b))).setCell ⟨w.heap.size + 1, 2, none⟩ (.int .u64 (notU s.c))).cell? ⟨w.heap.size + 1, 2, none⟩ = some (.int .u64 (notU s.c)) := (((hz.set_ 0 _).set_ 1 _).set_ 2 _).cell 2
  have e3 : ((((w1.setCell ⟨w.heap.size + 1, 0, none⟩ (.int .u64 (notU s.a))).setCell ⟨w.heap.size + 1, 1, none⟩ (.int .u64 (notU s.b))).setCell ⟨w.heap.size + 1, 2, none⟩ (.int .u64 (notU s.c))).setCell ⟨w.heap.size + 1, 3, none⟩ (.int .u64 (notU s.d))).cell? ⟨w.heap.size + 1, 3, none⟩ = some (.int .u64 (notU s.d)) := ((((hz.set_ 0 _).set_ 1 _).set_ 2 _).set_ 3 _).cell 3
  unfold S4.map2 at *
  go_wp2
  exact bodyPost_ret (v := .agg #[.int .u64 (notU s.a), .int .u64 (notU s.b), .int .u64 (notU s.c), .int .u64 (notU s.d)]) (by simp [results, Tryd.results134, go_sem, e0, e1, e2, e3]) rfl ⟨rfl, (by repeat (first | exact Below.refl _ _ | assumption | refine Below.drew ?_ | refine below_drewN ?_ _ | refine Below.alloc ?_ (by first | omega | (simp; omega) | simp) _ | refine Below.setCell ?_ (by first | omega | (simp; omega) | simp) _))⟩

/-- the words of set.Range behind so many rounds from lo on -/
def rangeL (lo : Nat) : Nat → List Nat
  | 0 => [0, 0, 0, 0]
  | k + 1 => (rangeL lo k).set ((lo + k) / 64) ((rangeL lo k).getD ((lo + k) / 64) 0 ||| 2 ^ ((lo + k) % 64))
def words (l : List Nat) : Array Value := (l.map fun x : Nat => Value.int .u64 x).toArray

theorem four_of {l : List Nat} (h : l.length = 4) : ∃ x0 x1 x2 x3, l = [x0, x1, x2, x3] :=
  match l, h with
  | [x0, x1, x2, x3], _ => ⟨x0, x1, x2, x3, rfl⟩
theorem rangeL_len (lo : Nat) : ∀ k, (rangeL lo k).length = 4
  | 0 => rfl
  | k + 1 => by rw [rangeL, List.length_set, rangeL_len lo k]
theorem words_get {l : List Nat} {i : Nat} (h : i < l.length) : (words l)[i]? = some (.int .u64 ((l.getD i 0 : Nat) : Int)) := by
  simp [words, h]
theorem words_set (l : List Nat) (i : Nat) (x : Nat) : (words l).setIfInBounds i (.int .u64 (x : Int)) = words (l.set i x) := by
  simp [words, List.map_set]

theorem and63 (b : Nat) (h : b < 256) : bits .and .i64 (b : Int) 63 = ((b % 64 : Nat) : Int) := by
  have h' : ∀ b : Fin 256, bits .and .i64 ((b : Nat) : Int) 63 = (((b : Nat) % 64 : Nat) : Int) := by decide +kernel
  exact h' ⟨b, h⟩

theorem or_bit {x r : Nat} (hx : x < 18446744073709551616) (hr : r < 64) : bits .or .u64 (x : Int) (IntKind.u64.wrap (2 ^ r)) = ((x ||| 2 ^ r : Nat) : Int) := by
  have h2 : (2 : Nat) ^ r < 18446744073709551616 := by
    have : (2 : Nat) ^ r < 2 ^ 64 := Nat.pow_lt_pow_right (by omega) hr
    simpa using this
  have h3 : IntKind.u64.wrap (2 ^ r) = ((2 ^ r : Nat) : Int) := by
    rw [show ((2 : Int) ^ r) = ((2 ^ r : Nat) : Int) by simp]
    generalize 2 ^ r = p at *
    rw [IntKind.wrap_u64]
    omega
  rw [h3, u64_or_nat x (2 ^ r) hx h2]
theorem rangeL_lt (lo : Nat) : ∀ k i, (rangeL lo k).getD i 0 < 18446744073709551616
  | 0, i => by
    match i with
    | 0 => show 0 < 18446744073709551616; decide
    | 1 => show 0 < 18446744073709551616; decide
    | 2 => show 0 < 18446744073709551616; decide
    | 3 => show 0 < 18446744073709551616; decide
    | i + 4 => simp [rangeL]
  | k + 1, i => by
    have ih := rangeL_lt lo k
    rw [rangeL, List.getD_eq_getElem?_getD, List.getElem?_set]
    split
    · split
      · have h1 : (2 : Nat) ^ ((lo + k) % 64) < 2 ^ 64 := Nat.pow_lt_pow_right (by omega) (Nat.mod_lt _ (by omega))
        have h2 := ih ((lo + k) / 64)
        have := Nat.or_lt_two_pow (n := 64) (by simpa using h2) h1
        simpa using this
      · simp
    · have := ih i
      rwa [List.getD_eq_getElem?_getD] at this

set_option maxHeartbeats 1600000 in
theorem range_any (low high : Int) (w : World) (h1 : I64 low) (h2 : I64 high) (lo n : Nat) (hlo : (low ≤ 0 ∧ lo = 0) ∨ (low = lo ∧ 0 < lo)) (hn : n = (min 255 high + 1 - lo).toNat) :
    Calls Tryd.prog 56 #[.int .i64 low, .int .i64 high] w fun e w' => e = .returned (.agg (words (rangeL lo n))) ∧ Below w.heap.size w w' := by
  obtain ⟨h1a, h1b⟩ := h1
  obtain ⟨h2a, h2b⟩ := h2
  have hn1 : n = 0 ∨ (lo : Int) + n ≤ 256 := by omega
  have HN := Lib.hid hn
  clear hn
  have h0 : Hid (low ≤ 0 → lo = 0) := fun h => by omega
  rcases (show low ≤ 0 ∨ (low = lo ∧ 0 < lo) by omega) with hlo | ⟨rfl, hlo⟩
  all_goals
    go_enter Tryd.func56, Tryd.ntmps56
    go_wp2
    go_loopw [5] (fun i wr => ∃ b k : Nat, b = lo + k ∧ k ≤ n ∧ i = .int .i64 b ∧ Blk wr w.heap.size 24 (words (rangeL lo k)) ∧ Below w.heap.size w wr) (fun i _ => 300 - (intOf i).toNat)
    case atStart => exact ⟨lo, 0, rfl, by omega, by first | rfl | (rw [h0.out hlo]; rfl) | (rw [h0.out hlo, Int.max_eq_left hlo]; rfl) | (rw [Int.max_eq_right (by omega)]), blk_at rfl, (by repeat (first | exact Below.refl _ _ | assumption | refine Below.drew ?_ | refine below_drewN ?_ _ | refine Below.alloc ?_ (by first | omega | (simp; omega) | simp) _ | refine Below.setCell ?_ (by first | omega | (simp; omega) | simp) _))⟩
    case round =>
      obtain ⟨b, k, hbk, hk, rfl, hb, hbw⟩ := hrel
      have HBK := Lib.hid hbk
      by_cases hkn : k < n
      · have hb256 : b < 256 := by omega
        have hle : (b : Int) ≤ min 255 high := by have := HN.out; omega
        have hl := rangeL_len lo k
        obtain ⟨q, r, hq, hr, hr64, hq4, hqn, hrn⟩ : ∃ q r : Nat, (b : Int) / 64 = q ∧ bits .and .i64 (b : Int) 63 = r ∧ r < 64 ∧ q < 4 ∧ (lo + k) / 64 = q ∧ (lo + k) % 64 = r :=
          ⟨b / 64, b % 64, by omega, by rw [and63 b hb256], by omega, by omega, by omega, by omega⟩
        have HQ := Lib.hid hqn
        have HR := Lib.hid hrn
        have hc := hb.cell q
        have hf := hb.frozen q
        rw [words_get (by omega)] at hc
        generalize hx : (rangeL lo k).getD q 0 = x at hc
        have HX := Lib.hid hx
        have HL := Lib.hid hl
        clear hx hl hbk hqn hrn
        by_cases hh : high < 255
        · go_wp2
          go_region
          all_goals
            go_wp2
            go_roundw
            case rel =>
              refine ⟨b + 1, k + 1, by have := HBK.out; omega, by omega, by go_num, ?_, (hbw.drew).setCell (Nat.le_refl _) _⟩
              have h := (hb.drew).set_ q (.int .u64 ((x ||| 2 ^ r : Nat) : Int))
              rw [words_set, ← HX.out, ← HQ.out, ← HR.out] at h
              rw [or_bit (by rw [← HX.out]; exact rangeL_lt lo k q) hr64, ← HX.out]
              rw [← HQ.out, ← HR.out]
              exact h
            case measure => simp [intOf]; omega
        · go_wp2
          go_region
          all_goals
            go_wp2
            go_roundw
            case rel =>
              refine ⟨b + 1, k + 1, by have := HBK.out; omega, by omega, by go_num, ?_, (hbw.drew).setCell (Nat.le_refl _) _⟩
              have h := (hb.drew).set_ q (.int .u64 ((x ||| 2 ^ r : Nat) : Int))
              rw [words_set, ← HX.out, ← HQ.out, ← HR.out] at h
              rw [or_bit (by rw [← HX.out]; exact rangeL_lt lo k q) hr64, ← HX.out]
              rw [← HQ.out, ← HR.out]
              exact h
            case measure => simp [intOf]; omega
      · obtain rfl : k = n := by omega
        have hl := rangeL_len lo k
        have hgt : min 255 high < b := by have := HN.out; have := HBK.out; omega
        obtain ⟨x0, x1, x2, x3, hL⟩ := four_of hl
        rw [hL] at hb
        have HLL := Lib.hid hL
        clear hL hl
        have c0 : wr.cell? ⟨w.heap.size, 0, none⟩ = some (.int .u64 x0) := hb.cell 0
        have c1 : wr.cell? ⟨w.heap.size, 1, none⟩ = some (.int .u64 x1) := hb.cell 1
        have c2 : wr.cell? ⟨w.heap.size, 2, none⟩ = some (.int .u64 x2) := hb.cell 2
        have c3 : wr.cell? ⟨w.heap.size, 3, none⟩ = some (.int .u64 x3) := hb.cell 3
        have f0 := hb.frozen 0
        have f1 := hb.frozen 1
        have f2 := hb.frozen 2
        have f3 := hb.frozen 3
        have e0 : (wr.setCell ⟨w.heap.size, 0, none⟩ (.int .u64 (x0 : Int))).cell? ⟨w.heap.size, 0, none⟩ = some (.int .u64 (x0 : Int)) := (hb.set_ 0 _).cell 0
        have e1 : ((wr.setCell ⟨w.heap.size, 0, none⟩ (.int .u64 (x0 : Int))).setCell ⟨w.heap.size, 1, none⟩ (.int .u64 (x1 : Int))).cell? ⟨w.heap.size, 1, none⟩ = some (.int .u64 (x1 : Int)) := ((hb.set_ 0 _).set_ 1 _).cell 1
        have e2 : (((wr.setCell ⟨w.heap.size, 0, none⟩ (.int .u64 (x0 : Int))).setCell ⟨w.heap.size, 1, none⟩ (.int .u64 (x1 : Int))).setCell ⟨w.heap.size, 2, none⟩ (.int .u64 (x2 : Int))).cell? ⟨w.heap.size, 2, none⟩ = some (.int .u64 (x2 : Int)) := (((hb.set_ 0 _).set_ 1 _).set_ 2 _).cell 2
        have e3 : ((((wr.setCell ⟨w.heap.size, 0, none⟩ (.int .u64 (x0 : Int))).setCell ⟨w.heap.size, 1, none⟩ (.int .u64 (x1 : Int))).setCell ⟨w.heap.size, 2, none⟩ (.int .u64 (x2 : Int))).setCell ⟨w.heap.size, 3, none⟩ (.int .u64 (x3 : Int))).cell? ⟨w.heap.size, 3, none⟩ = some (.int .u64 (x3 : Int)) := ((((hb.set_ 0 _).set_ 1 _).set_ 2 _).set_ 3 _).cell 3
        by_cases hh : high < 255
        all_goals
          go_wp2
          exact bodyPost_ret (v := .agg #[.int .u64 x0, .int .u64 x1, .int .u64 x2, .int .u64 x3]) (by simp [results, Tryd.results56, go_sem, e0, e1, e2, e3]) rfl ⟨by rw [HLL.out]; rfl, (by repeat (first | exact Below.refl _ _ | assumption | refine Below.drew ?_ | refine below_drewN ?_ _ | refine Below.alloc ?_ (by first | omega | (simp; omega) | simp) _ | refine Below.setCell ?_ (by first | omega | (simp; omega) | simp) _))⟩
end Go.Proofs.YtndhbdbfjkmloaaDoor
namespace Go.Proofs.YtndhbdbfjkmloaaDoor
open Go.RowKit

/-- the table of TrailingZeros64 in its variable -/
def TabAt (w : World) : Prop := ∀ j, j < Lib.deBruijn64tab.length → w.cell? ⟨0, j, none⟩ = some (.int .u8 (Lib.deBruijn64tab.getD j 0))
theorem TabAt.pos {w : World} (h : TabAt w) : 0 < w.heap.size := World.block_lt_of_cell? w _ (h 0 (by decide))
theorem TabAt.below {w w' : World} {B : Nat} (h : TabAt w) (hb : Below B w w') (hB : 0 < B) : TabAt w' := fun j hj => (hb.cell hB).trans (h j hj)
theorem tz_key (x a : Nat) (hx : x < 18446744073709551616) (hx0 : x ≠ 0) (hlow : x &&& (18446744073709551616 - x) = a) :
    IntKind.u64.wrap (bits BinOp.and IntKind.u64 (x : Int) (IntKind.u64.wrap (-(x : Int))) * 285870213051353865) / 288230376151711744 = ((a * 285870213051353865 % 18446744073709551616 / 288230376151711744 : Nat) : Int) := by
  have e1 : IntKind.u64.wrap (-(x : Int)) = ((18446744073709551616 - x : Nat) : Int) := by rw [IntKind.wrap_u64]; omega
  rw [e1, u64_and_nat x _ hx (by omega), hlow, IntKind.wrap_u64]
  omega
theorem tz_core (x k idx : Nat) (w : World) (hx0 : ((x : Int) == 0) = false)
    (key : IntKind.u64.wrap (bits BinOp.and IntKind.u64 (x : Int) (IntKind.u64.wrap (-(x : Int))) * 285870213051353865) / 288230376151711744 = (idx : Int))
    (hi : idx < 64) (hk : k < 64) (hcell : w.cell? ⟨0, idx, none⟩ = some (.int .u8 k)) :
    Calls Tryd.prog 112 #[.int .u64 x] w fun e w' => e = .returned (.int .i64 k) ∧ w' = w := by
  go_enter Tryd.func112, Tryd.ntmps112
  go_wp2_with (simp only [key])
  go_ret
  exact ⟨rfl, rfl⟩
theorem tz_any (x : Nat) (hx : x < 18446744073709551616) (hx0 : x ≠ 0) (w : World) (hT : TabAt w) : Calls Tryd.prog 112 #[.int .u64 x] w fun e w' => e = .returned (.int .i64 (Lib.ctz 64 x)) ∧ w' = w := by
  obtain ⟨hlow, hk⟩ := Lib.lowest_bit 64 x hx0 hx
  obtain ⟨hi, htab⟩ := Lib.deBruijn64_at _ hk
  have hcell := hT _ hi
  rw [htab] at hcell
  exact tz_core x _ _ w (by simp; omega) (tz_key x _ hx hx0 hlow) hi hk hcell
end Go.Proofs.YtndhbdbfjkmloaaDoor
namespace Go.Proofs.YtndhbdbfjkmloaaDoor
open Go.RowKit

end Go.Proofs.YtndhbdbfjkmloaaDoor
namespace Go.Proofs.YtndhbdbfjkmloaaDoor
open Go.RowKit

def firstI (l : List Nat) : Nat → Nat → Int
  | 0, _ => -1
  | k + 1, f => if hasN l f then f else firstI l k (f + 1)
/-- the first byte of a set from f on -/
def fstB (l : List Nat) (f : Nat) : Int := firstI l (256 - f) f
theorem firstI_is (l : List Nat) : ∀ k f, k + f = 256 → FirstIs l f (firstI l k f)
  | 0, f, h => .inr ⟨rfl, fun j h1 h2 => by omega⟩
  | k + 1, f, h => by
    have ih := firstI_is l k (f + 1) (by omega)
    rw [firstI]
    cases hb : hasN l f with
    | true => exact .inl ⟨f, by simp, Nat.le_refl _, by omega, hb, fun j h1 h2 => by omega⟩
    | false =>
      simp only [Bool.false_eq_true, if_false]
      rcases ih with ⟨b, h1, h2, h3, h4, h5⟩ | ⟨h1, h2⟩
      · exact .inl ⟨b, h1, by omega, h3, h4, fun j h6 h7 => by
          rcases Nat.eq_or_lt_of_le h6 with e | e
          · rw [← e]; exact hb
          · exact h5 j (by omega) h7⟩
      · exact .inr ⟨h1, fun j h6 h7 => by
          rcases Nat.eq_or_lt_of_le h6 with e | e
          · rw [← e]; exact hb
          · exact h2 j (by omega) h7⟩
theorem fstB_is (l : List Nat) (f : Nat) (hf : f ≤ 256) : FirstIs l f (fstB l f) := firstI_is l _ _ (by omega)
theorem FirstIs.uniq {l : List Nat} {f : Nat} {r r' : Int} (h : FirstIs l f r) (h' : FirstIs l f r') : r = r' := by
  rcases h with ⟨b, e, h1, h2, h3, h4⟩ | ⟨e, h1⟩ <;> rcases h' with ⟨b', e', h1', h2', h3', h4'⟩ | ⟨e', h1'⟩
  · rcases Nat.lt_trichotomy b b' with h | h | h
    · rw [h4' b h1 h] at h3; cases h3
    · omega
    · rw [h4 b' h1' h] at h3'; cases h3'
  · rw [h1' b h1 h2] at h3; cases h3
  · rw [h1 b' h1' h2'] at h3'; cases h3'
  · omega

def runE (l : List Nat) : Nat → Nat → Nat
  | 0, b => b
  | k + 1, b => if hasN l (b + 1) then runE l k (b + 1) else b
/-- the last byte that follows on b without a gap -/
def runB (l : List Nat) (b : Nat) : Nat := runE l (255 - b) b
theorem runB_step {l : List Nat} {b : Nat} (hb : b < 255) (h : hasN l (b + 1) = true) : runB l b = runB l (b + 1) := by
  unfold runB
  rw [show 255 - b = 255 - (b + 1) + 1 from by omega, runE, h]
  rfl
theorem runB_stop {l : List Nat} {b : Nat} (h : ¬ (b < 255 ∧ hasN l (b + 1) = true)) : runB l b = b := by
  unfold runB
  rcases Nat.eq_zero_or_pos (255 - b) with e | e
  · rw [e, runE]
  · have : ¬ hasN l (b + 1) = true := fun h' => h ⟨by omega, h'⟩
    rw [show 255 - b = 255 - b - 1 + 1 from by omega, runE, if_neg this]
theorem runE_is (l : List Nat) : ∀ k b, k + b = 255 → b ≤ runE l k b ∧ runE l k b ≤ 255 ∧ (∀ j, b < j → j ≤ runE l k b → hasN l j = true) ∧ (runE l k b < 255 → hasN l (runE l k b + 1) = false)
  | 0, b, h => ⟨Nat.le_refl _, by rw [runE]; omega, fun j h1 h2 => by rw [runE] at h2; omega, fun h1 => by rw [runE] at h1; omega⟩
  | k + 1, b, h => by
    have ih := runE_is l k (b + 1) (by omega)
    rw [runE]
    cases hb : hasN l (b + 1) with
    | true =>
      simp only [if_true]
      obtain ⟨h1, h2, h3, h4⟩ := ih
      refine ⟨by omega, h2, fun j h5 h6 => ?_, h4⟩
      rcases Nat.eq_or_lt_of_le (show b + 1 ≤ j by omega) with e | e
      · rw [← e]; exact hb
      · exact h3 j e h6
    | false =>
      simp only [Bool.false_eq_true, if_false]
      exact ⟨Nat.le_refl _, by omega, fun j h1 h2 => by omega, fun _ => hb⟩
theorem runB_is (l : List Nat) (b : Nat) (hb : b ≤ 255) : b ≤ runB l b ∧ runB l b ≤ 255 ∧ (∀ j, b < j → j ≤ runB l b → hasN l j = true) ∧ (runB l b < 255 → hasN l (runB l b + 1) = false) := runE_is l _ _ (by omega)

/-- what is written of the bytes b .. h -/
def piece (b h : Nat) : List UInt8 := enc true b ++ (if h = b + 1 then enc true h else if b < h then 45 :: enc true h else [])
/-- what is written of a set from its byte r on -/
def clsT (l : List Nat) : Nat → Int → List UInt8
  | 0, _ => []
  | k + 1, r => if r < 0 then [] else piece r.toNat (runB l r.toNat) ++ clsT l k (fstB l (runB l r.toNat + 1))
def clsAll (l : List Nat) : List UInt8 := 91 :: clsT l 257 (fstB l 0) ++ [93]

def orW (l l' : List Nat) : List Nat := [l.getD 0 0 ||| l'.getD 0 0, l.getD 1 0 ||| l'.getD 1 0, l.getD 2 0 ||| l'.getD 2 0, l.getD 3 0 ||| l'.getD 3 0]
/-- the signs that stand behind a stroke in a class -/
def sgC : List UInt8 := [91, 93, 45, 94, 92]
/-- a class read on: its set, and how many bytes it takes, the last one with it -/
def unc : Nat → List UInt8 → List Nat → Option (List Nat × Nat)
  | 0, _, _ => none
  | _ + 1, [], _ => none
  | f + 1, l, acc => if bt l 0 = 93 then some (acc, 1) else if (nextN sgC l).2 = 0 then none else
      if 1 < (l.drop (nextN sgC l).2).length ∧ bt (l.drop (nextN sgC l).2) 0 = 45 ∧ bt (l.drop (nextN sgC l).2) 1 ≠ 93 then
        if (nextN sgC (l.drop ((nextN sgC l).2 + 1))).2 = 0 ∨ (nextN sgC (l.drop ((nextN sgC l).2 + 1))).1 < (nextN sgC l).1 then none
        else (unc f (l.drop ((nextN sgC l).2 + 1 + (nextN sgC (l.drop ((nextN sgC l).2 + 1))).2)) (orW acc (rangeL (nextN sgC l).1 ((nextN sgC (l.drop ((nextN sgC l).2 + 1))).1 + 1 - (nextN sgC l).1)))).map fun x => (x.1, (nextN sgC l).2 + 1 + (nextN sgC (l.drop ((nextN sgC l).2 + 1))).2 + x.2)
      else (unc f (l.drop (nextN sgC l).2) (orW acc (rangeL (nextN sgC l).1 1))).map fun x => (x.1, (nextN sgC l).2 + x.2)

theorem orW_has (l l' : List Nat) {j : Nat} (hj : j < 256) : hasN (orW l l') j = (hasN l j || hasN l' j) := by
  unfold hasN orW
  rcases (by omega : j / 64 = 0 ∨ j / 64 = 1 ∨ j / 64 = 2 ∨ j / 64 = 3) with h | h | h | h <;> rw [h] <;> simp [Nat.testBit_or]
theorem rangeL_has (lo : Nat) : ∀ n, lo + n ≤ 256 → ∀ j, j < 256 → hasN (rangeL lo n) j = decide (lo ≤ j ∧ j < lo + n)
  | 0, _, j, _ => by
    have : ¬ (lo ≤ j ∧ j < lo + 0) := by omega
    rw [decide_eq_false this]
    unfold hasN rangeL
    rcases (by omega : j / 64 = 0 ∨ j / 64 = 1 ∨ j / 64 = 2 ∨ 3 ≤ j / 64) with h | h | h | h
    · rw [h]; simp
    · rw [h]; simp
    · rw [h]; simp
    · obtain ⟨m, hm⟩ : ∃ m, j / 64 = m + 3 := ⟨j / 64 - 3, by omega⟩
      rw [hm]
      cases m <;> simp
  | n + 1, h, j, hj => by
    have ih := rangeL_has lo n (by omega) j hj
    have hl := rangeL_len lo n
    unfold hasN at ih ⊢
    rw [rangeL, List.getD_eq_getElem?_getD, List.getElem?_set]
    split
    · rename_i he
      rw [if_pos (by omega)]
      simp only [Option.getD_some]
      rw [Nat.testBit_or, he, ih, Nat.testBit_two_pow]
      have e1 : ((lo + n) % 64 = j % 64) ↔ lo + n = j := by omega
      rw [Bool.eq_iff_iff]
      simp only [Bool.or_eq_true, decide_eq_true_iff, e1]
      omega
    · rename_i he
      rw [← List.getD_eq_getElem?_getD, ih, Bool.eq_iff_iff]
      simp only [decide_eq_true_iff]
      constructor
      · intro h1; omega
      · intro h1
        refine ⟨h1.1, ?_⟩
        rcases Nat.eq_or_lt_of_le (show j + 1 ≤ lo + (n + 1) from h1.2) with e | e
        · exfalso
          apply he
          rw [show lo + n = j from by omega]
        · omega
theorem words_eq {l o : List Nat} (hl : l.length = 4) (ho : o.length = 4) (h1 : Words l) (h2 : Words o) (h : ∀ j, j < 256 → hasN l j = hasN o j) : l = o := by
  have key : ∀ i, i < 4 → l.getD i 0 = o.getD i 0 := fun i hi => by
    apply Nat.eq_of_testBit_eq
    intro j
    by_cases hj : j < 64
    · have := h (64 * i + j) (by omega)
      unfold hasN at this
      rwa [show (64 * i + j) / 64 = i from by omega, show (64 * i + j) % 64 = j from by omega] at this
    · have e : ∀ x : Nat, x < 18446744073709551616 → x.testBit j = false := fun x hx => Nat.testBit_lt_two_pow (Nat.lt_of_lt_of_le hx (by
        have : (2 : Nat) ^ 64 ≤ 2 ^ j := Nat.pow_le_pow_right (by omega) (by omega)
        simpa using this))
      rw [e _ (h1 i), e _ (h2 i)]
  apply List.ext_getElem?
  intro i
  by_cases hi : i < 4
  · have := key i hi
    rw [List.getD_eq_getElem?_getD, List.getD_eq_getElem?_getD, List.getElem?_eq_getElem (by omega), List.getElem?_eq_getElem (by omega)] at this
    rw [List.getElem?_eq_getElem (by omega), List.getElem?_eq_getElem (by omega)]
    simpa using this
  · rw [List.getElem?_eq_none (by omega), List.getElem?_eq_none (by omega)]
end Go.Proofs.YtndhbdbfjkmloaaDoor
namespace Go.Proofs.YtndhbdbfjkmloaaDoor
open Go.RowKit

def encAll (cls : Bool) : List UInt8 → List UInt8
  | [] => []
  | b :: l => enc cls b.toNat ++ encAll cls l
theorem encAll_snoc (cls : Bool) (b : UInt8) : ∀ l, encAll cls (l ++ [b]) = encAll cls l ++ enc cls b.toNat
  | [] => by simp [encAll]
  | c :: l => by
    show enc cls c.toNat ++ encAll cls (l ++ [b]) = _
    rw [encAll_snoc cls b l, encAll, List.append_assoc]
theorem enc_len (cls : Bool) (n : Nat) : (enc cls n).length ≤ 4 := by
  unfold enc
  split
  · simp
  · split
    · simp
    · split
      · simp
      · split <;> simp
theorem encAll_len (cls : Bool) : ∀ l, (encAll cls l).length ≤ 4 * l.length
  | [] => by simp [encAll]
  | b :: l => by
    have h1 := encAll_len cls l
    have h2 := enc_len cls b.toNat
    rw [encAll, List.length_append, List.length_cons]
    omega
/-- a literal as text -/
def litL (s : List UInt8) : List UInt8 := 39 :: (encAll false s ++ [39])

theorem app_data (a b : ByteArray) : (a ++ b).data.toList = a.data.toList ++ b.data.toList := by simp

theorem lit_any (s : ByteArray) (w : World) (hs : s.size ≤ 140737488351232) :
    Calls Tryd.prog 40 #[.string s] w fun e w' => (∃ u : ByteArray, e = .returned (.string u) ∧ u.data.toList = litL s.data.toList) ∧ Below w.heap.size w w' := by
  have HL := Lib.hid (size_list s)
  go_enter Tryd.func40, Tryd.ntmps40
  go_wp2_with fail
  go_loopw [3, 4, 7] (fun o _ i wr => ∃ (k : Nat) (u : ByteArray), k ≤ s.size ∧ i = .int .i64 k ∧ o = .string u ∧ u.data.toList = 39 :: encAll false (s.data.toList.take k) ∧ Below w.heap.size w wr) (fun _ _ i _ => s.size - (intOf i).toNat)
  case atStart => exact ⟨0, ⟨#[39]⟩, by omega, rfl, rfl, rfl, Below.refl _ _⟩
  case round =>
    obtain ⟨k, u, hk, rfl, rfl, hu, hbw⟩ := hrel
    have hub : u.size ≤ 562949953404929 := by
      have h1 := encAll_len false (s.data.toList.take k)
      have h2 : (s.data.toList.take k).length ≤ 140737488351232 := by rw [List.length_take, HL.out]; omega
      have h3 := size_list u
      rw [hu, List.length_cons] at h3
      omega
    have HU := Lib.hid hu
    clear hu
    by_cases hkn : k < s.size
    · have hg := get_byte hkn
      have HG := Lib.hid hg
      clear hg
      have hb := s[k].toNat_lt
      go_wp2_with fail
      refine (one_any false s[k].toNat hb _).mono ?_
      rintro e w1 ⟨rfl, hb1⟩
      have hw1 := hbw.trans (hb1.mono hbw.size)
      have he : (enc false s[k].toNat).toArray.size ≤ 4 := by have := enc_len false s[k].toNat; simpa using this
      have he' : (⟨(enc false s[k].toNat).toArray⟩ : ByteArray).size ≤ 4 := he
      generalize hE : (⟨(enc false s[k].toNat).toArray⟩ : ByteArray) = E at he' ⊢
      have HE := Lib.hid hE
      clear hE hb1 hb he
      go_wp2
      go_roundw
      case rel => exact ⟨k + 1, u ++ E, by omega, by go_num, rfl, by rw [app_data, HU.out, ← HE.out, take_succ_of HG.out, encAll_snoc]; simp, hw1⟩
      case measure => simp [intOf]; omega
    · obtain rfl : k = s.size := by omega
      go_wp2
      go_ret
      refine ⟨⟨_, rfl, ?_⟩, hbw⟩
      rw [app_data, HU.out, List.take_of_length_le (by rw [HL.out]; omega)]
      rfl
end Go.Proofs.YtndhbdbfjkmloaaDoor
namespace Go.Proofs.YtndhbdbfjkmloaaDoor
open Go.RowKit

theorem bt_app {e r : List UInt8} {k : Nat} (h : k < e.length) : bt (e ++ r) k = bt e k := by
  unfold bt; rw [List.getD_eq_getElem?_getD, List.getD_eq_getElem?_getD, List.getElem?_append_left h]
theorem nextN_app {sg e r : List UInt8} (h : (nextN sg e).2 ≠ 0) (he : e ≠ []) : nextN sg (e ++ r) = nextN sg e := by
  have h1 : 0 < e.length := by cases e with | nil => exact absurd rfl he | cons => simp
  have e0 := bt_app (r := r) h1
  by_cases h92 : bt e 0 = 92
  · have h2 : 2 ≤ e.length := by
      rcases Nat.lt_or_ge e.length 2 with h' | h'
      · exfalso; apply h; unfold nextN; rw [if_neg (by simpa using h92), if_pos h']
      · exact h'
    have e1 := bt_app (r := r) (show 1 < e.length by omega)
    have hl : ¬ (e ++ r).length < 2 := by rw [List.length_append]; omega
    have key : ∀ l : List UInt8, bt l 0 = 92 → 2 ≤ l.length → nextN sg l = (if bt l 1 = 110 then (10, 2) else if bt l 1 = 116 then (9, 2) else if UInt8.ofNat (bt l 1) ∈ sg then (bt l 1, 2)
        else if bt l 1 = 120 ∧ 4 ≤ l.length then (if 0 ≤ hexI (bt l 2) ∧ 0 ≤ hexI (bt l 3) then ((hexI (bt l 2) * 16 + hexI (bt l 3)).toNat, 4) else (0, 0)) else (0, 0)) := by
      intro l a b
      unfold nextN
      rw [if_neg (by simpa using a), if_neg (by omega)]
    rw [key e h92 h2] at h
    rw [key e h92 h2, key (e ++ r) (by rw [e0]; exact h92) (by omega), e1]
    by_cases a : bt e 1 = 110
    · rw [if_pos a, if_pos a]
    · rw [if_neg a] at h
      rw [if_neg a, if_neg a]
      by_cases b : bt e 1 = 116
      · rw [if_pos b, if_pos b]
      · rw [if_neg b] at h
        rw [if_neg b, if_neg b]
        by_cases c : UInt8.ofNat (bt e 1) ∈ sg
        · rw [if_pos c, if_pos c]
        · rw [if_neg c] at h
          rw [if_neg c, if_neg c]
          by_cases d : bt e 1 = 120 ∧ 4 ≤ e.length
          · have e2 := bt_app (r := r) (show 2 < e.length by omega)
            have e3 := bt_app (r := r) (show 3 < e.length by omega)
            rw [if_pos d, if_pos ⟨d.1, by rw [List.length_append]; omega⟩, e2, e3]
          · rw [if_neg d] at h
            exact absurd rfl h
  · unfold nextN
    rw [e0, if_pos h92, if_pos h92]
theorem nextN_bd (sg l : List UInt8) (hl : l ≠ []) : (nextN sg l).2 ≤ l.length ∧ (nextN sg l).1 < 256 ∧ (nextN sg l).2 ≤ 4 := by
  have h1 : 0 < l.length := by cases l with | nil => exact absurd rfl hl | cons => simp
  have b0 := bt_lt l 0
  have b1 := bt_lt l 1
  have a2 := hexI_bd (bt l 2)
  have a3 := hexI_bd (bt l 3)
  unfold nextN
  split
  · split
    · simp
    · exact ⟨by simp; omega, b0, by simp⟩
  · split
    · simp
    · split
      · exact ⟨by simp; omega, by simp, by simp⟩
      · split
        · exact ⟨by simp; omega, by simp, by simp⟩
        · split
          · exact ⟨by simp; omega, b1, by simp⟩
          · split
            · split
              · rename_i h _
                exact ⟨h.2, by simp only; omega, by simp⟩
              · simp
            · simp
end Go.Proofs.YtndhbdbfjkmloaaDoor
namespace Go.Proofs.YtndhbdbfjkmloaaDoor
open Go.RowKit

/-- a literal read behind its first sign q: its bytes, and how many signs it takes, the last one with it -/
def unl (q : Nat) (sg : List UInt8) : Nat → List UInt8 → Option (List UInt8 × Nat)
  | 0, _ => none
  | _ + 1, [] => none
  | f + 1, l => if bt l 0 = q then some ([], 1) else if (nextN sg l).2 = 0 then none else (unl q sg f (l.drop (nextN sg l).2)).map fun x => (UInt8.ofNat (nextN sg l).1 :: x.1, (nextN sg l).2 + x.2)

theorem unl_step (q : Nat) (sg : List UInt8) (f : Nat) {l : List UInt8} (hl : l ≠ []) : unl q sg (f + 1) l = if bt l 0 = q then some ([], 1) else if (nextN sg l).2 = 0 then none else (unl q sg f (l.drop (nextN sg l).2)).map fun x => (UInt8.ofNat (nextN sg l).1 :: x.1, (nextN sg l).2 + x.2) := by
  cases l with
  | nil => exact absurd rfl hl
  | cons => rfl
theorem unl_nil (q : Nat) (sg : List UInt8) : ∀ f, unl q sg f [] = none
  | 0 => rfl
  | _ + 1 => rfl
/-- the signs that stand behind a stroke in a literal -/
def sgU : ByteArray := ⟨#[39, 34, 92]⟩
theorem string_own {w : World} {base n c : Nat} {V : Option Addr} {l : List UInt8} (h : w.ownsRow base 5 1 (.slice V n c) n (u8s l)) :
    (convert 158 9 (.slice V n c)).run Tryd.prog w = .ok (.string ⟨l.toArray⟩) w := by
  have hl : l.length = n := by have := h.1; rw [u8s_length] at this; omega
  rcases h.2 with ⟨h1, rfl⟩ | ⟨g', cap, cur, hv, _, hh, _, _, _, ht⟩
  · simp only [Value.slice.injEq] at h1
    obtain ⟨rfl, _, rfl⟩ := h1
    have : l = [] := List.eq_nil_of_length_eq_zero hl
    subst this
    have hu := Tryd.underlying9
    have := run_convert_bytes_string (P := Tryd.prog) w 158 9 5 none 0 0 Tryd.underlying158 Tryd.underlying5 hu
    rw [this]
    rfl
  · simp only [Value.slice.injEq] at hv
    obtain ⟨rfl, _, _⟩ := hv
    rw [Nat.mul_one] at ht
    exact string_of Tryd.underlying158 Tryd.underlying5 Tryd.underlying9 (BlkZ.of hh) hl ht

theorem u8_info' : (Tryd.prog.info? 5).map (fun i => (i.zero, i.size, i.bytes)) = some (some (.int .u8 0), 1, 1) := by kernel_rfl
theorem bt_drop (l : List UInt8) (k : Nat) : bt (l.drop k) 0 = bt l k := by
  unfold bt; rw [List.getD_eq_getElem?_getD, List.getD_eq_getElem?_getD, List.getElem?_drop, Nat.add_zero]

set_option maxRecDepth 100000 in
set_option maxHeartbeats 4000000 in
theorem unlit_yes (s : ByteArray) (w : World) (hs : s.size ≤ 4611686018427387904) (h0 : 0 < s.size) (q : Nat) (hq : bt s.data.toList 0 = q) (hq2 : q = 39 ∨ q = 34) (o : List UInt8) (c : Nat)
    (ho : unl q sgU.data.toList s.size (s.data.toList.drop 1) = some (o, c)) (hob : o.length ≤ 140737488351232) :
    Calls Tryd.prog 77 #[.string s] w fun e w' => e = .returned (.tuple #[.string ⟨o.toArray⟩, .int .i64 ((1 + c : Nat) : Int), .int .i64 0]) ∧ Below w.heap.size w w' := by
  have HL := Lib.hid (size_list s)
  have hb0 := bt_of h0
  rw [hq] at hb0
  have HQ := Lib.hid hq
  have HO := Lib.hid ho
  clear hq ho
  have hne : (s.toList.isEmpty) = false := by
    rw [ByteArray.toList_eq]
    cases h : s.data.toList with
    | nil => have := HL.out; rw [h] at this; simp at this; omega
    | cons => rfl
  obtain ⟨i0, hi0, hz0, hz1, hz2⟩ := info_parts u8_info'
  have hqb : q < 256 := by omega
  have h39 : ((q : Int) != 39) = true ∧ ((q : Int) != 34) = false ∨ ((q : Int) != 39) = false := by
    rcases hq2 with rfl | rfl
    · right; decide
    · left; decide
  clear hq2
  rcases h39 with ⟨b1, b2⟩ | b1
  all_goals
    go_enter Tryd.func77, Tryd.ntmps77
    go_wp2_with fail
    go_loopw [5, 6, 7, 8] (fun v i _ _ wr => ∃ (k m f : Nat) (acc : List UInt8) (V : Option Addr) (cp : Nat), 1 ≤ k ∧ k ≤ s.size ∧ s.size - k < f ∧ i = .int .i64 k ∧ v = .slice V m cp ∧ wr.ownsRow w.heap.size 5 1 (.slice V m cp) m (u8s acc) ∧
      (unl q sgU.data.toList f (s.data.toList.drop k)).map (fun x => (acc ++ x.1, k + x.2)) = some (o, 1 + c) ∧ Below w.heap.size w wr) (fun _ i _ _ _ => s.size - (intOf i).toNat)
    case atStart => exact ⟨1, 0, s.size, [], none, 0, by omega, by omega, by omega, rfl, rfl, ⟨rfl, .inl ⟨rfl, rfl⟩⟩, by rw [HO.out]; simp, Below.refl _ _⟩
    case round =>
      obtain ⟨k, m, f, acc, V, cp, hk1, hk, hf, rfl, rfl, hown, hun, hbw⟩ := hrel
      have hmacc : acc.length = m := by have := hown.1; rw [u8s_length] at this; omega
      have hsz := hbw.size
      obtain ⟨f', rfl⟩ : ∃ f', f = f' + 1 := ⟨f - 1, by omega⟩
      by_cases hkn : k < s.size
      · have hne' : s.data.toList.drop k ≠ [] := by
          intro h
          have := congrArg List.length h
          rw [List.length_drop, HL.out, List.length_nil] at this
          omega
        rw [unl_step _ _ _ hne', bt_drop] at hun
        have hbk := bt_of hkn
        have hk0 : (0 : Int) ≤ (k : Int) := by omega
        have hk1 : (k : Int) < (s.size : Int) := by omega
        by_cases hbq : bt s.data.toList k = q
        · rw [if_pos hbq] at hun
          have hun' : acc = o ∧ k + 1 = 1 + c := by simpa using hun
          obtain ⟨rfl, hkc⟩ := hun'
          rw [hbq] at hbk
          have hstr := string_own hown
          have HKC := Lib.hid hkc
          clear hun hbq hkc
          go_wp2
          go_quiet (fail)
          have hstr' := string_own (w := wr.drewN nq) hown
          go_wp2
          go_ret3
          exact ⟨by rw [← HKC.out]; rfl, below_drewN hbw _⟩
        · rw [if_neg hbq] at hun
          generalize hnn : nextN sgU.data.toList (s.data.toList.drop k) = nx at hun
          obtain ⟨b, n⟩ := nx
          have hnb := nextN_bd sgU.data.toList _ hne'
          rw [hnn] at hnb
          simp only at hnb hun
          obtain ⟨hn1, hn2, hn3⟩ := hnb
          rw [List.length_drop, HL.out] at hn1
          by_cases hn0 : n = 0
          · rw [if_pos hn0] at hun; cases hun
          · rw [if_neg hn0, List.drop_drop] at hun
            generalize hu2 : unl q sgU.data.toList f' (s.data.toList.drop (k + n)) = R at hun
            cases R with
            | none => cases hun
            | some x =>
              obtain ⟨x1, x2⟩ := x
              have hun' : acc ++ UInt8.ofNat b :: x1 = o ∧ k + (n + x2) = 1 + c := by simpa using hun
              have hlen : m + 1 ≤ 140737488351232 := by
                have := congrArg List.length hun'.1
                simp at this
                omega
              have hrel : (unl q sgU.data.toList f' (s.data.toList.drop (k + n))).map (fun x => (acc ++ [UInt8.ofNat b] ++ x.1, k + n + x.2)) = some (o, 1 + c) := by
                rw [hu2]
                simp only [Option.map_some, List.append_assoc, List.singleton_append, hun'.1]
                rw [← hun'.2]
                congr 2
                omega
              have HREL := Lib.hid hrel
              have HNN := Lib.hid hnn
              have hbn : ((b : Int)) = ((UInt8.ofNat b).toNat : Int) := by simp; omega
              have HBN := Lib.hid hbn
              have hn00 : ((n : Int) == 0) = false := by rw [beq_eq_false_iff_ne]; omega
              have hbne : (((bt s.data.toList k : Nat) : Int) == (q : Int)) = false := by rw [beq_eq_false_iff_ne]; omega
              clear hun hun' hrel hnn hbn hu2 hne' hbq
              go_wp2
              go_quiet (fail)
              go_wp2_with fail
              refine (nextq_any (s.extract k s.size) ⟨#[39, 34, 92]⟩ _ ?_).mono ?_
              · have := size_list (s.extract k s.size); rw [Lib.extract_to_end, List.length_drop, HL.out] at this; omega
              rw [Lib.extract_to_end]
              unfold NextQ
              rw [show (⟨#[39, 34, 92]⟩ : ByteArray).data.toList = sgU.data.toList from rfl, HNN.out]
              rintro e w2 ⟨rfl, d, rfl⟩
              rw [HBN.out]
              generalize UInt8.ofNat b = B at *
              go_wp2_with (at_builtin; refine wpList_append_lies _ rfl _ _ _ rfl w.heap.size 5 i0 _ 1 1 Tryd.underlying158 hi0 hz0 hz1 hz2 rfl (by omega) (.slice V m cp) m _ rfl (hown.alloc _) ⟨wr.heap.size, 0, none⟩ 1 1 [.int .u8 B.toNat] rfl rfl (World.news_of_block (cs := #[.int .u8 B.toNat]) (t := 5) (fr := (0, 0)) (heap_alloc_new wr _)) (by simp [Value.oneCell']) (by omega) (by unfold maxLen; omega) (by omega) (by simp; omega) (wr.heap.size + 1) (by simp) ?_; intro gg cap w1 hown1 hgrow hat hlt)
              go_roundw
              case rel => exact ⟨k + n, m + 1, f', acc ++ [B], _, cap, by omega, by omega, by omega, by go_num, rfl, by rw [u8s_append]; exact hown1, HREL.out, below_app (below_drewN (hbw.alloc hsz _) _) (hown.alloc _) hgrow (by simp; omega) (Nat.le_refl _)⟩
              case measure => simp [intOf]; omega
      · obtain rfl : k = s.size := by omega
        rw [List.drop_of_length_le (by rw [HL.out]; omega), unl_nil] at hun
        cases hun
end Go.Proofs.YtndhbdbfjkmloaaDoor
namespace Go.Proofs.YtndhbdbfjkmloaaDoor
open Go.RowKit

theorem enc_next (n : Nat) (h : n < 256) : nextN sgU.data.toList (enc false n) = (n, (enc false n).length) ∧ bt (enc false n) 0 ≠ 39 ∧ (enc false n).length ≠ 0 := by
  have h' : ∀ n : Fin 256, nextN sgU.data.toList (enc false n.val) = (n.val, (enc false n.val).length) ∧ bt (enc false n.val) 0 ≠ 39 ∧ (enc false n.val).length ≠ 0 := by decide +kernel
  exact h' ⟨n, h⟩
theorem unl_enc (more : List UInt8) : ∀ (s : List UInt8) (f : Nat), (encAll false s).length < f → unl 39 sgU.data.toList f (encAll false s ++ 39 :: more) = some (s, (encAll false s).length + 1)
  | [], 0, h => by simp at h
  | [], f + 1, _ => by
    show unl 39 sgU.data.toList (f + 1) (39 :: more) = _
    rw [unl_step _ _ _ (by simp), if_pos (by rfl)]
    rfl
  | b :: s, 0, h => by simp at h
  | b :: s, f + 1, h => by
    obtain ⟨h1, h2, h3⟩ := enc_next b.toNat b.toNat_lt
    have hne : enc false b.toNat ≠ [] := fun h' => h3 (by rw [h']; rfl)
    have hl : 0 < (enc false b.toNat).length := by omega
    rw [encAll, List.append_assoc] at *
    rw [List.length_append] at h
    have hx := nextN_app (sg := sgU.data.toList) (r := encAll false s ++ 39 :: more) (by rw [h1]; exact h3) hne
    rw [unl_step _ _ _ (by simp [hne]), bt_app hl, if_neg h2, hx, h1]
    simp only
    rw [if_neg h3, List.drop_left, unl_enc more s f (by omega)]
    simp only [Option.map_some, List.length_append, Option.some.injEq, Prod.mk.injEq]
    refine ⟨?_, by omega⟩
    simp

end Go.Proofs.YtndhbdbfjkmloaaDoor
namespace Go.Proofs.YtndhbdbfjkmloaaDoor
open Go.RowKit

/-- a letter or a digit, as a number -/
def isLet (c : Nat) : Bool := decide (97 ≤ c ||| 32) && decide (c ||| 32 ≤ 122)
def isDig (c : Nat) : Bool := decide (48 ≤ c) && decide (c ≤ 57)
def nameAt (l : List UInt8) (i : Nat) : Bool := isLet (bt l i) || (i != 0 && isDig (bt l i))
def nameB (l : List UInt8) : Bool := decide (l ≠ []) && decide (l.length ≤ 8) && (List.range l.length).all (nameAt l)

theorem or32 (c : Nat) (h : c < 256) : bits .or .u8 (c : Int) 32 = ((c ||| 32 : Nat) : Int) := by
  have h' : ∀ n : Fin 256, bits .or .u8 ((n : Nat) : Int) 32 = (((n : Nat) ||| 32 : Nat) : Int) := by decide +kernel
  exact h' ⟨c, h⟩
theorem name_no {l : List UInt8} {k : Nat} (hk : k < l.length) (h : nameAt l k = false) : nameB l = false := by
  unfold nameB
  have : (List.range l.length).all (nameAt l) = false := by
    rw [List.all_eq_false]
    exact ⟨k, by simpa using hk, by simp [h]⟩
  rw [this, Bool.and_false]
theorem name_yes {l : List UInt8} (h0 : l ≠ []) (h8 : l.length ≤ 8) (h : ∀ i, i < l.length → nameAt l i = true) : nameB l = true := by
  unfold nameB
  simp [h0, h8]
  exact h

theorem name_any (s : ByteArray) (w : World) : Calls Tryd.prog 33 #[.string s] w fun e w' => e = .returned (.bool (nameB s.data.toList)) ∧ w = w' := by
  have HL := Lib.hid (size_list s)
  by_cases h0 : s.size = 0
  · have he : s.toList = [] := by rw [ByteArray.toList_eq]; exact List.eq_nil_of_length_eq_zero (by rw [HL.out]; exact h0)
    have he' : (!s.toList.isEmpty) = false := by rw [he]; rfl
    have HF : Hid (nameB s.data.toList = false) := by
      show _ = _
      rw [List.eq_nil_of_length_eq_zero (HL.out.trans h0)]; rfl
    go_enter Tryd.func33, Tryd.ntmps33
    go_wp2
    go_ret
    exact ⟨ret_bool HF.out.symm, rfl⟩
  have hne : s.data.toList ≠ [] := fun h => h0 (by rw [← HL.out, h]; rfl)
  have he : s.toList.isEmpty = false := by rw [ByteArray.toList_eq]; cases h : s.data.toList with
    | nil => exact absurd h hne
    | cons _ _ => rfl
  have HNE := Lib.hid hne
  clear hne
  by_cases h8 : 8 < s.size
  · have HF : Hid (nameB s.data.toList = false) := by
      show _ = _
      unfold nameB; rw [HL.out]; simp; omega
    go_enter Tryd.func33, Tryd.ntmps33
    go_wp2
    go_ret
    exact ⟨ret_bool HF.out.symm, rfl⟩
  go_enter Tryd.func33, Tryd.ntmps33
  go_wp2
  go_loop [3, 4, 14] (fun _ _ i => ∃ k : Nat, k ≤ s.size ∧ i = .int .i64 k ∧ ∀ j, j < k → nameAt s.data.toList j = true) (fun _ _ i => s.size - (intOf i).toNat)
  case atStart => exact ⟨0, by omega, rfl, fun j h => by omega⟩
  case round =>
    obtain ⟨k, hk, rfl, hr⟩ := hrel
    have HR := Lib.hid hr
    clear hr
    by_cases hkn : k < s.size
    · have hb := bt_of hkn
      have hor := or32 (bt s.data.toList k) (bt_lt _ _)
      have HA : Hid (nameAt s.data.toList k = (isLet (bt s.data.toList k) || (k != 0 && isDig (bt s.data.toList k)))) := by exact rfl
      generalize hc : bt s.data.toList k = c at hb hor HA
      generalize hd : c ||| 32 = d at hor
      have HLt : Hid (isLet c = (decide (97 ≤ d) && decide (d ≤ 122))) := by show _ = _; rw [← hd]; rfl
      clear hc hd
      have hcase : nameAt s.data.toList k = true ∨ nameAt s.data.toList k = false := by cases nameAt s.data.toList k <;> simp
      by_cases h1 : 97 ≤ d
      · have i1 : ((97 : Int) ≤ (d : Int)) := by omega
        by_cases h2 : d ≤ 122
        · have i2 : ((d : Int) ≤ 122) := by omega
          have HY : Hid (nameAt s.data.toList k = true) := by show _ = _; rw [HA.out, HLt.out]; simp [h1, h2]
          go_wp2
          go_round
          case rel => exact ⟨k + 1, by omega, by go_num, fun j hj => by
            by_cases hjk : j < k
            · exact HR.out j hjk
            · obtain rfl : j = k := by omega
              exact HY.out⟩
          case measure => simp [intOf]; omega
        · have i2 : (((d : Int) ≤ 122)) = False := by simp; omega
          have HN : Hid (isLet c = false) := by show _ = _; rw [HLt.out]; simp; omega
          by_cases hk0 : k = 0
          · subst hk0
            have HY : Hid (nameB s.data.toList = false) := name_no (k := 0) (by rw [HL.out]; omega) (by rw [HA.out, HN.out]; rfl)
            go_wp2
            go_ret
            exact ⟨ret_bool HY.out.symm, rfl⟩
          have bk0 : (((k : Nat) : Int) == 0) = false := by rw [beq_eq_false_iff_ne]; omega
          have bk1 : (k != 0) = true := by rw [bne_iff_ne]; exact hk0
          by_cases h3 : c < 48
          · have i3 : ((c : Int) < 48) := by omega
            have HY : Hid (nameB s.data.toList = false) := name_no (k := k) (by rw [HL.out]; omega) (by rw [HA.out, HN.out]; simp [isDig]; omega)
            go_wp2
            go_ret
            exact ⟨ret_bool HY.out.symm, rfl⟩
          · have i3 : ((c : Int) < 48) = False := by simp; omega
            by_cases h4 : 57 < c
            · have i4 : ((57 : Int) < (c : Int)) := by omega
              have HY : Hid (nameB s.data.toList = false) := name_no (k := k) (by rw [HL.out]; omega) (by rw [HA.out, HN.out]; simp [isDig]; omega)
              go_wp2
              go_ret
              exact ⟨ret_bool HY.out.symm, rfl⟩
            · have i4 : ((57 : Int) < (c : Int)) = False := by simp; omega
              have HY : Hid (nameAt s.data.toList k = true) := by show _ = _; rw [HA.out, HN.out]; simp [isDig, bk1]; omega
              go_wp2
              go_round
              case rel => exact ⟨k + 1, by omega, by go_num, fun j hj => by
                by_cases hjk : j < k
                · exact HR.out j hjk
                · obtain rfl : j = k := by omega
                  exact HY.out⟩
              case measure => simp [intOf]; omega
      · have i1 : (((97 : Int) ≤ (d : Int))) = False := by simp; omega
        have HN : Hid (isLet c = false) := by show _ = _; rw [HLt.out]; simp; omega
        by_cases hk0 : k = 0
        · subst hk0
          have HY : Hid (nameB s.data.toList = false) := name_no (k := 0) (by rw [HL.out]; omega) (by rw [HA.out, HN.out]; rfl)
          go_wp2
          go_ret
          exact ⟨ret_bool HY.out.symm, rfl⟩
        have bk0 : (((k : Nat) : Int) == 0) = false := by rw [beq_eq_false_iff_ne]; omega
        have bk1 : (k != 0) = true := by rw [bne_iff_ne]; exact hk0
        by_cases h3 : c < 48
        · have i3 : ((c : Int) < 48) := by omega
          have HY : Hid (nameB s.data.toList = false) := name_no (k := k) (by rw [HL.out]; omega) (by rw [HA.out, HN.out]; simp [isDig]; omega)
          go_wp2
          go_ret
          exact ⟨ret_bool HY.out.symm, rfl⟩
        · have i3 : ((c : Int) < 48) = False := by simp; omega
          by_cases h4 : 57 < c
          · have i4 : ((57 : Int) < (c : Int)) := by omega
            have HY : Hid (nameB s.data.toList = false) := name_no (k := k) (by rw [HL.out]; omega) (by rw [HA.out, HN.out]; simp [isDig]; omega)
            go_wp2
            go_ret
            exact ⟨ret_bool HY.out.symm, rfl⟩
          · have i4 : ((57 : Int) < (c : Int)) = False := by simp; omega
            have HY : Hid (nameAt s.data.toList k = true) := by show _ = _; rw [HA.out, HN.out]; simp [isDig, bk1]; omega
            go_wp2
            go_round
            case rel => exact ⟨k + 1, by omega, by go_num, fun j hj => by
              by_cases hjk : j < k
              · exact HR.out j hjk
              · obtain rfl : j = k := by omega
                exact HY.out⟩
            case measure => simp [intOf]; omega
    · obtain rfl : k = s.size := by omega
      go_wp2
      go_ret
      exact ⟨ret_bool (name_yes HNE.out (by rw [HL.out]; omega) (by rw [HL.out]; exact HR.out)).symm, rfl⟩
end Go.Proofs.YtndhbdbfjkmloaaDoor
namespace Go.Proofs.YtndhbdbfjkmloaaDoor
open Go.RowKit

theorem u64_info : (Tryd.prog.info? 22).map (fun i => (i.zero, i.size, i.bytes)) = some (some (.int .u64 0), 1, 8) := by kernel_rfl
theorem u64_cells : Tryd.prog.cellsOf 22 = 1 := by kernel_rfl
theorem part_u64 (w : World) (cs : Array Value) (i : Nat) (x : Int) (h : cs[i]? = some (.int .u64 x)) : (part 22 cs i).run Tryd.prog w = .ok (.int .u64 x) w := by
  have hu := Tryd.underlying22
  simp [part, isAgg, run_underlying hu, h]
theorem run_eq_u64 (w : World) (d : Nat) (a b : Int) : (Op.equalIn (d + 1) 22 (.int .u64 a) (.int .u64 b)).run Tryd.prog w = .ok (a == b) w := run_equalIn_int w d _ .u64 .u64 a b Tryd.underlying22
/-- sets are compared word by word -/
theorem run_same_set (w : World) (a b c d a' b' c' d' : Int) : (Op.equalIn 10000 24 (.agg #[.int .u64 a, .int .u64 b, .int .u64 c, .int .u64 d]) (.agg #[.int .u64 a', .int .u64 b', .int .u64 c', .int .u64 d'])).run Tryd.prog w = .ok (a == a' && (b == b' && (c == c' && d == d'))) w := by
  obtain ⟨i, hi, _⟩ := info_parts u64_info
  show (Op.equalIn (9999 + 1) 24 _ _).run Tryd.prog w = _
  rw [run_equalIn_array w 9999 _ _ Tryd.underlying24 hi, u64_cells]
  show (Op.eqItems (9998 + 1) 22 1 _ _ [0, 1, 2, 3]).run _ _ = _
  generalize 9998 = n
  simp only [Op.eqItems, Sem.run_bind, part_u64 w #[.int .u64 a, .int .u64 b, .int .u64 c, .int .u64 d] (0 * 1) a rfl, part_u64 w #[.int .u64 a, .int .u64 b, .int .u64 c, .int .u64 d] (1 * 1) b rfl, part_u64 w #[.int .u64 a, .int .u64 b, .int .u64 c, .int .u64 d] (2 * 1) c rfl, part_u64 w #[.int .u64 a, .int .u64 b, .int .u64 c, .int .u64 d] (3 * 1) d rfl,
    part_u64 w #[.int .u64 a', .int .u64 b', .int .u64 c', .int .u64 d'] (0 * 1) a' rfl, part_u64 w #[.int .u64 a', .int .u64 b', .int .u64 c', .int .u64 d'] (1 * 1) b' rfl, part_u64 w #[.int .u64 a', .int .u64 b', .int .u64 c', .int .u64 d'] (2 * 1) c' rfl, part_u64 w #[.int .u64 a', .int .u64 b', .int .u64 c', .int .u64 d'] (3 * 1) d' rfl, run_eq_u64, Result.andThen_ok, Sem.run_ite, Sem.run_pure]
  cases a == a' <;> cases b == b' <;> cases c == c' <;> cases d == d' <;> simp
end Go.Proofs.YtndhbdbfjkmloaaDoor
