/- What set.Not and set.Range answer. A parser that remembers: plain. Its state, and what each of its calls makes of it, by fuel. A parser that remembers finds what the grammar means. Plain. -/
import Derived.Test.YtndhbdbfjkmloaaGreatDoorJTopBook5
namespace Go.Proofs.YtndhbdbfjkmloaaGreatDoor
open Go.RowKit


/-- the words of set.Range behind so many rounds from lo on -/
def rangeL (lo : Nat) : Nat → List Nat
  | 0 => [0, 0, 0, 0]
  | k + 1 => (rangeL lo k).set ((lo + k) / 64) ((rangeL lo k).getD ((lo + k) / 64) 0 ||| 2 ^ ((lo + k) % 64))
def words (l : List Nat) : Array Value := (l.map fun x : Nat => Value.int .u64 x).toArray

theorem four_of {l : List Nat} (h : l.length = 4) : ∃ x0 x1 x2 x3, l = [x0, x1, x2, x3] :=
  match l, h with
  | [x0, x1, x2, x3], _ => ⟨x0, x1, x2, x3, rfl⟩
theorem rangeL_len (lo : Nat) : ∀ k, (rangeL lo k).length = 4
  | 0 => rfl
  | k + 1 => by rw [rangeL, List.length_set, rangeL_len lo k]
theorem words_get {l : List Nat} {i : Nat} (h : i < l.length) : (words l)[i]? = some (.int .u64 ((l.getD i 0 : Nat) : Int)) := by
  simp [words, h]
theorem words_set (l : List Nat) (i : Nat) (x : Nat) : (words l).setIfInBounds i (.int .u64 (x : Int)) = words (l.set i x) := by
  simp [words, List.map_set]

theorem and63 (b : Nat) (h : b < 256) : bits .and .i64 (b : Int) 63 = ((b % 64 : Nat) : Int) := by
  have h' : ∀ b : Fin 256, bits .and .i64 ((b : Nat) : Int) 63 = (((b : Nat) % 64 : Nat) : Int) := by decide +kernel
  exact h' ⟨b, h⟩

theorem or_bit {x r : Nat} (hx : x < 18446744073709551616) (hr : r < 64) : bits .or .u64 (x : Int) (IntKind.u64.wrap (2 ^ r)) = ((x ||| 2 ^ r : Nat) : Int) := by
  have h2 : (2 : Nat) ^ r < 18446744073709551616 := by
    have : (2 : Nat) ^ r < 2 ^ 64 := Nat.pow_lt_pow_right (by omega) hr
    simpa using this
  have h3 : IntKind.u64.wrap (2 ^ r) = ((2 ^ r : Nat) : Int) := by
    rw [show ((2 : Int) ^ r) = ((2 ^ r : Nat) : Int) by simp]
    generalize 2 ^ r = p at *
    rw [IntKind.wrap_u64]
    omega
  rw [h3, u64_or_nat x (2 ^ r) hx h2]
theorem rangeL_lt (lo : Nat) : ∀ k i, (rangeL lo k).getD i 0 < 18446744073709551616
  | 0, i => by
    match i with
    | 0 => show 0 < 18446744073709551616; decide
    | 1 => show 0 < 18446744073709551616; decide
    | 2 => show 0 < 18446744073709551616; decide
    | 3 => show 0 < 18446744073709551616; decide
    | i + 4 => simp [rangeL]
  | k + 1, i => by
    have ih := rangeL_lt lo k
    rw [rangeL, List.getD_eq_getElem?_getD, List.getElem?_set]
    split
    · split
      · have h1 : (2 : Nat) ^ ((lo + k) % 64) < 2 ^ 64 := Nat.pow_lt_pow_right (by omega) (Nat.mod_lt _ (by omega))
        have h2 := ih ((lo + k) / 64)
        have := Nat.or_lt_two_pow (n := 64) (by simpa using h2) h1
        simpa using this
      · simp
    · have := ih i
      rwa [List.getD_eq_getElem?_getD] at this

set_option maxHeartbeats 1600000 in
theorem range_any (low high : Int) (w : World) (h1 : I64 low) (h2 : I64 high) (lo n : Nat) (hlo : (low ≤ 0 ∧ lo = 0) ∨ (low = lo ∧ 0 < lo)) (hn : n = (min 255 high + 1 - lo).toNat) :
    Calls Tryz.prog 78 #[.int .i64 low, .int .i64 high] w fun e w' => e = .returned (.agg (words (rangeL lo n))) ∧ Below w.heap.size w w' := by
  obtain ⟨h1a, h1b⟩ := h1
  obtain ⟨h2a, h2b⟩ := h2
  have hn1 : n = 0 ∨ (lo : Int) + n ≤ 256 := by omega
  have HN := Lib.hid hn
  clear hn
  have h0 : Hid (low ≤ 0 → lo = 0) := fun h => by omega
  rcases (show low ≤ 0 ∨ (low = lo ∧ 0 < lo) by omega) with hlo | ⟨rfl, hlo⟩
  all_goals
    go_enter Tryz.func78, Tryz.ntmps78
    go_wp2
    go_loopw [5] (fun i wr => ∃ b k : Nat, b = lo + k ∧ k ≤ n ∧ i = .int .i64 b ∧ Blk wr w.heap.size 63 (words (rangeL lo k)) ∧ Below w.heap.size w wr) (fun i _ => 300 - (intOf i).toNat)
    case atStart => exact ⟨lo, 0, rfl, by omega, by first | rfl | (rw [h0.out hlo]; rfl) | (rw [h0.out hlo, Int.max_eq_left hlo]; rfl) | (rw [Int.max_eq_right (by omega)]), blk_at rfl, (by repeat (first | exact Below.refl _ _ | assumption | refine Below.drew ?_ | refine below_drewN ?_ _ | refine Below.alloc ?_ (by first | omega | (simp; omega) | simp) _ | refine Below.setCell ?_ (by first | omega | (simp; omega) | simp) _))⟩
    case round =>
      obtain ⟨b, k, hbk, hk, rfl, hb, hbw⟩ := hrel
      have HBK := Lib.hid hbk
      by_cases hkn : k < n
      · have hb256 : b < 256 := by omega
        have hle : (b : Int) ≤ min 255 high := by have := HN.out; omega
        have hl := rangeL_len lo k
        obtain ⟨q, r, hq, hr, hr64, hq4, hqn, hrn⟩ : ∃ q r : Nat, (b : Int) / 64 = q ∧ bits .and .i64 (b : Int) 63 = r ∧ r < 64 ∧ q < 4 ∧ (lo + k) / 64 = q ∧ (lo + k) % 64 = r :=
          ⟨b / 64, b % 64, by omega, by rw [and63 b hb256], by omega, by omega, by omega, by omega⟩
        have HQ := Lib.hid hqn
        have HR := Lib.hid hrn
        have hc := hb.cell q
        have hf := hb.frozen q
        rw [words_get (by omega)] at hc
        generalize hx : (rangeL lo k).getD q 0 = x at hc
        have HX := Lib.hid hx
        have HL := Lib.hid hl
        clear hx hl hbk hqn hrn
        by_cases hh : high < 255
        · go_wp2
          go_region
          all_goals
            go_wp2
            go_roundw
            case rel =>
              refine ⟨b + 1, k + 1, by have := HBK.out; omega, by omega, by go_num, ?_, (hbw.drew).setCell (Nat.le_refl _) _⟩
              have h := (hb.drew).set_ q (.int .u64 ((x ||| 2 ^ r : Nat) : Int))
              rw [words_set, ← HX.out, ← HQ.out, ← HR.out] at h
              rw [or_bit (by rw [← HX.out]; exact rangeL_lt lo k q) hr64, ← HX.out]
              rw [← HQ.out, ← HR.out]
              exact h
            case measure => simp [intOf]; omega
        · go_wp2
          go_region
          all_goals
            go_wp2
            go_roundw
            case rel =>
              refine ⟨b + 1, k + 1, by have := HBK.out; omega, by omega, by go_num, ?_, (hbw.drew).setCell (Nat.le_refl _) _⟩
              have h := (hb.drew).set_ q (.int .u64 ((x ||| 2 ^ r : Nat) : Int))
              rw [words_set, ← HX.out, ← HQ.out, ← HR.out] at h
              rw [or_bit (by rw [← HX.out]; exact rangeL_lt lo k q) hr64, ← HX.out]
              rw [← HQ.out, ← HR.out]
              exact h
            case measure => simp [intOf]; omega
      · obtain rfl : k = n := by omega
        have hl := rangeL_len lo k
        have hgt : min 255 high < b := by have := HN.out; have := HBK.out; omega
        obtain ⟨x0, x1, x2, x3, hL⟩ := four_of hl
        rw [hL] at hb
        have HLL := Lib.hid hL
        clear hL hl
        have c0 : wr.cell? ⟨w.heap.size, 0, none⟩ = some (.int .u64 x0) := hb.cell 0
        have c1 : wr.cell? ⟨w.heap.size, 1, none⟩ = some (.int .u64 x1) := hb.cell 1
        have c2 : wr.cell? ⟨w.heap.size, 2, none⟩ = some (.int .u64 x2) := hb.cell 2
        have c3 : wr.cell? ⟨w.heap.size, 3, none⟩ = some (.int .u64 x3) := hb.cell 3
        have f0 := hb.frozen 0
        have f1 := hb.frozen 1
        have f2 := hb.frozen 2
        have f3 := hb.frozen 3
        have e0 : (wr.setCell ⟨w.heap.size, 0, none⟩ (.int .u64 (x0 : Int))).cell? ⟨w.heap.size, 0, none⟩ = some (.int .u64 (x0 : Int)) := (hb.set_ 0 _).cell 0
        have e1 : ((wr.setCell ⟨w.heap.size, 0, none⟩ (.int .u64 (x0 : Int))).setCell ⟨w.heap.size, 1, none⟩ (.int .u64 (x1 : Int))).cell? ⟨w.heap.size, 1, none⟩ = some (.int .u64 (x1 : Int)) := ((hb.set_ 0 _).set_ 1 _).cell 1
        have e2 : (((wr.setCell ⟨w.heap.size, 0, none⟩ (.int .u64 (x0 : Int))).setCell ⟨w.heap.size, 1, none⟩ (.int .u64 (x1 : Int))).setCell ⟨w.heap.size, 2, none⟩ (.int .u64 (x2 : Int))).cell? ⟨w.heap.size, 2, none⟩ = some (.int .u64 (x2 : Int)) := (((hb.set_ 0 _).set_ 1 _).set_ 2 _).cell 2
        have e3 : ((((wr.setCell ⟨w.heap.size, 0, none⟩ (.int .u64 (x0 : Int))).setCell ⟨w.heap.size, 1, none⟩ (.int .u64 (x1 : Int))).setCell ⟨w.heap.size, 2, none⟩ (.int .u64 (x2 : Int))).setCell ⟨w.heap.size, 3, none⟩ (.int .u64 (x3 : Int))).cell? ⟨w.heap.size, 3, none⟩ = some (.int .u64 (x3 : Int)) := ((((hb.set_ 0 _).set_ 1 _).set_ 2 _).set_ 3 _).cell 3
        by_cases hh : high < 255
        all_goals
          go_wp2
          exact bodyPost_ret (v := .agg #[.int .u64 x0, .int .u64 x1, .int .u64 x2, .int .u64 x3]) (by simp [results, Tryz.results78, go_sem, e0, e1, e2, e3]) rfl ⟨by rw [HLL.out]; rfl, (by repeat (first | exact Below.refl _ _ | assumption | refine Below.drew ?_ | refine below_drewN ?_ _ | refine Below.alloc ?_ (by first | omega | (simp; omega) | simp) _ | refine Below.setCell ?_ (by first | omega | (simp; omega) | simp) _))⟩
end Go.Proofs.YtndhbdbfjkmloaaGreatDoor
namespace Go.Proofs.YtndhbdbfjkmloaaGreatDoor

/-- what a parser remembers: outcomes of rules at places, the steps, the farthest miss and what was wanted there; marks of nodes -/
structure PS where
  seen : List ((Nat × Nat) × Option Nat)
  log : List (Nat × Nat × Option Nat)
  far : Int
  want : S4
  marks : List Nat
def recall (l : List ((Nat × Nat) × Option Nat)) (k : Nat × Nat) : Option (Option Nat) := (l.find? fun x => decide (x.1 = k)).map (·.2)
def noS : S4 := ⟨0, 0, 0, 0⟩
/-- the set of one byte -/
def oneS (c : Nat) : S4 := ⟨((rangeL c 1).getD 0 0 : Nat), ((rangeL c 1).getD 1 0 : Nat), ((rangeL c 1).getD 2 0 : Nat), ((rangeL c 1).getD 3 0 : Nat)⟩
/-- a byte of these was missed at a place -/
def missS (σ : PS) (p : Nat) (w : S4) : PS :=
  if σ.far < (p : Int) then { σ with far := p, want := S4.map2 orU noS w }
  else if (p : Int) = σ.far then { σ with want := S4.map2 orU σ.want w } else σ
/-- how much of a text stands at a place -/
def alike (s : List UInt8) (p : Nat) (t : List UInt8) : Nat → Nat → Nat
  | 0, k => k
  | f + 1, k => if p + k < s.length ∧ bt s (p + k) = bt t k then alike s p t f (k + 1) else k
def matchN (s : List UInt8) (p : Nat) (t : List UInt8) : Nat := alike s p t t.length 0
/-- the number of a rule's first node -/
def firstN (g : List Rl) (i : Nat) : Nat := ((g.take i).map fun r => nodes r.2).sum
/-- a node was tried -/
def markS (hook : Bool) (σ : PS) (n : Nat) (ok : Bool) : PS :=
  if hook then { σ with marks := σ.marks.set n (σ.marks.getD n 0 ||| (if ok then 1 else 2)) } else σ

inductive PJob where
  | node (e : Ex) (n : Nat)
  | try_ (e : Ex) (n : Nat)
  | rule (i : Nat)
  | seq (es : List Ex) (n : Nat)
  | alt (es : List Ex) (n : Nat)
  | rep (e : Ex) (n : Nat)
  | one (k : Int) (e : Ex) (n : Nat)

/-- what comes of it, and what is remembered then -/
def pk (g : List Rl) (s : List UInt8) (hook : Bool) : Nat → PJob → Nat → PS → Option (Option Nat × PS)
  | 0, _, _, _ => none
  | m + 1, .try_ e n, p, σ => match pk g s hook m (.node e n) p σ with
    | none => none
    | some (o, σ1) => some (o, markS hook σ1 n o.isSome)
  | m + 1, .rule i, p, σ => match recall σ.seen (i, p) with
    | some o => some (o.map (p + ·), σ)
    | none => match g[i]? with
      | none => none
      | some r => match pk g s hook m (.try_ r.2 (firstN g i)) p σ with
        | none => none
        | some (o, σ1) => if (recall σ1.seen (i, p)).isSome then none else some (o, { σ1 with seen := σ1.seen ++ [((i, p), o.map (· - p))], log := σ1.log ++ [(i, p, o.map (· - p))] })
  | m + 1, .node (.mk k a b c d t ks) n, p, σ =>
    if k = 1 then some (some p, σ)
    else if k = 2 then (if p < s.length ∧ hasE a b c d (bt s p) = true then some (some (p + 1), σ) else some (none, missS σ p ⟨a, b, c, d⟩))
    else if k = 3 then (if litAt s p t.data.toList = true then some (some (p + t.size), σ) else some (none, missS σ (p + matchN s p t.data.toList) (oneS (bt t.data.toList (matchN s p t.data.toList)))))
    else if k = 4 then pk g s hook m (.rule (fnd g t.data.toList).toNat) p σ
    else if k = 5 then pk g s hook m (.seq ks (n + 1)) p σ
    else if k = 6 then pk g s hook m (.alt ks (n + 1)) p σ
    else (match ks with
      | [] => none
      | e :: _ => pk g s hook m (.one k e n) p σ)
  | m + 1, .one k e n, p, σ => match pk g s hook m (.try_ e (n + 1)) p σ with
    | none => none
    | some (none, σ1) => some (if k = 8 ∨ k = 10 then none else some p, σ1)
    | some (some to, σ1) => if k = 10 then some (some p, σ1) else if k = 11 then some (none, σ1) else if k = 9 then some (some to, σ1) else pk g s hook m (.rep e (n + 1)) to σ1
  | _ + 1, .seq [] _, p, σ => some (some p, σ)
  | m + 1, .seq (e :: es) n, p, σ => match pk g s hook m (.try_ e n) p σ with
    | none => none
    | some (none, σ1) => some (none, σ1)
    | some (some to, σ1) => pk g s hook m (.seq es (n + nodes e)) to σ1
  | _ + 1, .alt [] _, _, σ => some (none, σ)
  | m + 1, .alt (e :: es) n, p, σ => match pk g s hook m (.try_ e n) p σ with
    | none => none
    | some (some to, σ1) => some (some to, σ1)
    | some (none, σ1) => pk g s hook m (.alt es (n + nodes e)) p σ1
  | m + 1, .rep e n, p, σ => match pk g s hook m (.try_ e n) p σ with
    | none => none
    | some (none, σ1) => some (some p, σ1)
    | some (some to, σ1) => pk g s hook m (.rep e n) to σ1

theorem pk_node (g : List Rl) (s : List UInt8) (hook : Bool) (m : Nat) (k a b c d : Int) (t : ByteArray) (ks : List Ex) (n p : Nat) (σ : PS) : pk g s hook (m + 1) (.node (.mk k a b c d t ks) n) p σ =
    if k = 1 then some (some p, σ)
    else if k = 2 then (if p < s.length ∧ hasE a b c d (bt s p) = true then some (some (p + 1), σ) else some (none, missS σ p ⟨a, b, c, d⟩))
    else if k = 3 then (if litAt s p t.data.toList = true then some (some (p + t.size), σ) else some (none, missS σ (p + matchN s p t.data.toList) (oneS (bt t.data.toList (matchN s p t.data.toList)))))
    else if k = 4 then pk g s hook m (.rule (fnd g t.data.toList).toNat) p σ
    else if k = 5 then pk g s hook m (.seq ks (n + 1)) p σ
    else if k = 6 then pk g s hook m (.alt ks (n + 1)) p σ
    else (match ks with
      | [] => none
      | e :: _ => pk g s hook m (.one k e n) p σ) := rfl
theorem pk_mono (g : List Rl) (s : List UInt8) (hook : Bool) : ∀ m j p σ r, pk g s hook m j p σ = some r → pk g s hook (m + 1) j p σ = some r := by
  intro m
  induction m with
  | zero => intro j p σ r h; cases h
  | succ m ih =>
    intro j p σ r h
    cases j with
    | try_ e n =>
      simp only [pk] at h
      show (match pk g s hook (m + 1) (.node e n) p σ with | none => none | some (o, σ1) => some (o, markS hook σ1 n o.isSome)) = some r
      cases he : pk g s hook m (.node e n) p σ with
      | none => rw [he] at h; cases h
      | some x => rw [he] at h; rw [ih _ _ _ _ he]; exact h
    | rule i =>
      simp only [pk] at h
      show (match recall σ.seen (i, p) with
        | some o => some (o.map (p + ·), σ)
        | none => match g[i]? with
          | none => none
          | some r => match pk g s hook (m + 1) (.try_ r.2 (firstN g i)) p σ with
            | none => none
            | some (o, σ1) => if (recall σ1.seen (i, p)).isSome then none else some (o, { σ1 with seen := σ1.seen ++ [((i, p), o.map (· - p))], log := σ1.log ++ [(i, p, o.map (· - p))] })) = some r
      cases hs : recall σ.seen (i, p) with
      | some o => rw [hs] at h; exact h
      | none =>
        rw [hs] at h
        simp only at h ⊢
        cases hg : g[i]? with
        | none => rw [hg] at h; cases h
        | some rr =>
          rw [hg] at h
          simp only at h ⊢
          cases he : pk g s hook m (.try_ rr.2 (firstN g i)) p σ with
          | none => rw [he] at h; cases h
          | some x => rw [he] at h; rw [ih _ _ _ _ he]; exact h
    | seq es n =>
      cases es with
      | nil => exact h
      | cons e es =>
        simp only [pk] at h
        show (match pk g s hook (m + 1) (.try_ e n) p σ with
          | none => none
          | some (none, σ1) => some (none, σ1)
          | some (some to, σ1) => pk g s hook (m + 1) (.seq es (n + nodes e)) to σ1) = some r
        cases he : pk g s hook m (.try_ e n) p σ with
        | none => rw [he] at h; cases h
        | some x =>
          rw [he] at h
          rw [ih _ _ _ _ he]
          obtain ⟨o, σ1⟩ := x
          cases o with
          | none => exact h
          | some to => exact ih _ _ _ _ h
    | alt es n =>
      cases es with
      | nil => exact h
      | cons e es =>
        simp only [pk] at h
        show (match pk g s hook (m + 1) (.try_ e n) p σ with
          | none => none
          | some (some to, σ1) => some (some to, σ1)
          | some (none, σ1) => pk g s hook (m + 1) (.alt es (n + nodes e)) p σ1) = some r
        cases he : pk g s hook m (.try_ e n) p σ with
        | none => rw [he] at h; cases h
        | some x =>
          rw [he] at h
          rw [ih _ _ _ _ he]
          obtain ⟨o, σ1⟩ := x
          cases o with
          | some to => exact h
          | none => exact ih _ _ _ _ h
    | rep e n =>
      simp only [pk] at h
      show (match pk g s hook (m + 1) (.try_ e n) p σ with
        | none => none
        | some (none, σ1) => some (some p, σ1)
        | some (some to, σ1) => pk g s hook (m + 1) (.rep e n) to σ1) = some r
      cases he : pk g s hook m (.try_ e n) p σ with
      | none => rw [he] at h; cases h
      | some x =>
        rw [he] at h
        rw [ih _ _ _ _ he]
        obtain ⟨o, σ1⟩ := x
        cases o with
        | none => exact h
        | some to => exact ih _ _ _ _ h
    | node e n =>
      obtain ⟨k, a, b, c, d, t, ks⟩ := e
      rw [pk_node] at h
      rw [pk_node]
      by_cases k1 : k = 1
      · rw [if_pos k1] at h ⊢; exact h
      rw [if_neg k1] at h ⊢
      by_cases k2 : k = 2
      · rw [if_pos k2] at h ⊢; exact h
      rw [if_neg k2] at h ⊢
      by_cases k3 : k = 3
      · rw [if_pos k3] at h ⊢; exact h
      rw [if_neg k3] at h ⊢
      by_cases k4 : k = 4
      · rw [if_pos k4] at h ⊢; exact ih _ _ _ _ h
      rw [if_neg k4] at h ⊢
      by_cases k5 : k = 5
      · rw [if_pos k5] at h ⊢; exact ih _ _ _ _ h
      rw [if_neg k5] at h ⊢
      by_cases k6 : k = 6
      · rw [if_pos k6] at h ⊢; exact ih _ _ _ _ h
      rw [if_neg k6] at h ⊢
      cases ks with
      | nil => exact h
      | cons e es => exact ih _ _ _ _ h
    | one k e n =>
      simp only [pk] at h
      show (match pk g s hook (m + 1) (.try_ e (n + 1)) p σ with
        | none => none
        | some (none, σ1) => some (if k = 8 ∨ k = 10 then none else some p, σ1)
        | some (some to, σ1) => if k = 10 then some (some p, σ1) else if k = 11 then some (none, σ1) else if k = 9 then some (some to, σ1) else pk g s hook (m + 1) (.rep e (n + 1)) to σ1) = some r
      cases he : pk g s hook m (.try_ e (n + 1)) p σ with
      | none => rw [he] at h; cases h
      | some x =>
        rw [he] at h
        rw [ih _ _ _ _ he]
        obtain ⟨o, σ1⟩ := x
        cases o with
        | none => exact h
        | some to =>
          simp only at h ⊢
          by_cases k10 : k = 10
          · rw [if_pos k10] at h ⊢; exact h
          rw [if_neg k10] at h ⊢
          by_cases k11 : k = 11
          · rw [if_pos k11] at h ⊢; exact h
          rw [if_neg k11] at h ⊢
          by_cases k9 : k = 9
          · rw [if_pos k9] at h ⊢; exact h
          rw [if_neg k9] at h ⊢
          exact ih _ _ _ _ h
theorem pk_le {g : List Rl} {s : List UInt8} {hook : Bool} {m m' : Nat} {j : PJob} {p : Nat} {σ : PS} {r : Option Nat × PS} (h : pk g s hook m j p σ = some r) (hm : m ≤ m') : pk g s hook m' j p σ = some r := by
  induction hm with
  | refl => exact h
  | step _ ih => exact pk_mono _ _ _ _ _ _ _ _ ih
end Go.Proofs.YtndhbdbfjkmloaaGreatDoor
namespace Go.Proofs.YtndhbdbfjkmloaaGreatDoor

theorem recall_app (l : List ((Nat × Nat) × Option Nat)) (k k' : Nat × Nat) (v : Option Nat) : recall (l ++ [(k, v)]) k' = if (recall l k').isSome then recall l k' else if k = k' then some v else none := by
  unfold recall
  rw [List.find?_append]
  cases h : l.find? (fun x => decide (x.1 = k')) with
  | some x => simp
  | none =>
    by_cases hk : k = k'
    · subst hk; simp
    · simp [hk]
/-- all that is remembered is what the grammar means -/
def Agree (g : List Rl) (s : List UInt8) (σ : PS) : Prop := ∀ i p o, recall σ.seen (i, p) = some o → ∃ r n, g[i]? = some r ∧ ev g s n r.2 p = some (o.map (p + ·))
/-- what is new came to its end sooner -/
def Fresh (g : List Rl) (s : List UInt8) (n : Nat) (σ σ1 : PS) : Prop := ∀ i p, (recall σ1.seen (i, p)).isSome = true → (recall σ.seen (i, p)).isSome = true ∨ ∃ r k, k < n ∧ g[i]? = some r ∧ (ev g s k r.2 p).isSome = true
def Goes (g : List Rl) (s : List UInt8) (hook : Bool) (n : Nat) (j : PJob) (p : Nat) (σ : PS) (o : Option Nat) : Prop := ∃ m σ1, pk g s hook m j p σ = some (o, σ1) ∧ Agree g s σ1 ∧ Fresh g s n σ σ1

section
variable {g : List Rl} {s : List UInt8} {hook : Bool} {fs : List Fa}
theorem Fresh.rfl' {n : Nat} {σ : PS} : Fresh g s n σ σ := fun _ _ h => .inl h
theorem Fresh.of_eq {n : Nat} {σ σ1 : PS} (h : σ1.seen = σ.seen) : Fresh g s n σ σ1 := fun _ _ hh => .inl (by rw [← h]; exact hh)
theorem Fresh.trans {n m k : Nat} {σ σ1 σ2 : PS} (h1 : Fresh g s n σ σ1) (h2 : Fresh g s m σ1 σ2) (hn : n ≤ k) (hm : m ≤ k) : Fresh g s k σ σ2 := fun i p h => by
  rcases h2 i p h with h | ⟨r, a, ha, hb⟩
  · rcases h1 i p h with h | ⟨r, a, ha, hb⟩
    · exact .inl h
    · exact .inr ⟨r, a, by omega, hb⟩
  · exact .inr ⟨r, a, by omega, hb⟩
theorem Agree.of_eq {σ σ1 : PS} (h : Agree g s σ) (he : σ1.seen = σ.seen) : Agree g s σ1 := fun i p o hh => h i p o (by rw [← he]; exact hh)
theorem missS_seen (σ : PS) (p : Nat) (w : S4) : (missS σ p w).seen = σ.seen := by
  unfold missS
  split
  · rfl
  · split <;> rfl
theorem markS_seen (σ : PS) (n : Nat) (ok : Bool) : (markS hook σ n ok).seen = σ.seen := by
  unfold markS
  split <;> rfl
theorem Goes.try_ {n num p : Nat} {e : Ex} {σ : PS} {o : Option Nat} (h : Goes g s hook n (.node e num) p σ o) : Goes g s hook n (.try_ e num) p σ o := by
  obtain ⟨m, σ1, h1, h2, h3⟩ := h
  refine ⟨m + 1, markS hook σ1 num o.isSome, by simp only [pk, h1], h2.of_eq (markS_seen _ _ _), ?_⟩
  intro i q hh
  rw [markS_seen] at hh
  exact h3 i q hh
theorem least_fuel {e : Ex} {p : Nat} : ∀ n, (ev g s n e p).isSome = true → ∃ n0, n0 ≤ n ∧ (ev g s n0 e p).isSome = true ∧ ∀ k, k < n0 → (ev g s k e p).isSome = false := by
  intro n
  induction n using Nat.strongRecOn with
  | _ n ih =>
    intro h
    by_cases hk : ∃ k, k < n ∧ (ev g s k e p).isSome = true
    · obtain ⟨k, hk, hs⟩ := hk
      obtain ⟨n0, h1, h2, h3⟩ := ih k hk hs
      exact ⟨n0, by omega, h2, h3⟩
    · refine ⟨n, Nat.le_refl _, h, fun k hkn => ?_⟩
      cases hc : (ev g s k e p).isSome with
      | false => rfl
      | true => exact absurd ⟨k, hkn, hc⟩ hk

theorem goes_rule (H : Fits g fs) {n i p : Nat} {r : Rl} {o : Option Nat} (hp : p ≤ s.length) (hr : g[i]? = some r) (he : ev g s n r.2 p = some o)
    (ih : ∀ n0, n0 ≤ n → ∀ o, ev g s n0 r.2 p = some o → ∀ σ num, Agree g s σ → Goes g s hook n0 (.node r.2 num) p σ o) {σ : PS} (hσ : Agree g s σ) : Goes g s hook (n + 1) (.rule i) p σ o := by
  have hmem := List.mem_of_getElem? hr
  cases hs : recall σ.seen (i, p) with
  | some o' =>
    obtain ⟨r', n', hr', he'⟩ := hσ i p o' hs
    rw [hr] at hr'
    injection hr' with hr'
    subst hr'
    have := ev_eq he he'
    subst this
    exact ⟨1, σ, by simp only [pk, hs], hσ, Fresh.rfl'⟩
  | none =>
    obtain ⟨n0, h1, h2, h3⟩ := least_fuel n (by rw [he]; rfl)
    obtain ⟨o0, h0⟩ := Option.isSome_iff_exists.1 h2
    have := ev_eq h0 he
    subst this
    have ht := (told H n).1 r.2 p _ (H.right r hmem) hp he
    obtain ⟨m, σ1, e1, e2, e3⟩ := (ih n0 h1 _ h0 σ (firstN g i) hσ).try_
    have hnone : (recall σ1.seen (i, p)).isSome = false := by
      cases hc : (recall σ1.seen (i, p)).isSome with
      | false => rfl
      | true =>
        rcases e3 i p hc with hh | ⟨r', k, hk, hr', hh⟩
        · rw [hs] at hh; cases hh
        · rw [hr] at hr'
          injection hr' with hr'
          subst hr'
          rw [h3 k hk] at hh
          cases hh
    have hback : (o0.map (· - p)).map (p + ·) = o0 := by
      cases o0 with
      | none => rfl
      | some to => show some (p + (to - p)) = some to; rw [Nat.add_sub_cancel' ht.1]
    refine ⟨m + 1, { σ1 with seen := σ1.seen ++ [((i, p), o0.map (· - p))], log := σ1.log ++ [(i, p, o0.map (· - p))] }, ?_, ?_, ?_⟩
    · simp only [pk, hs, hr, e1, hnone]
      rfl
    · intro j q o' hh
      rw [recall_app] at hh
      split at hh
      · exact e2 j q o' hh
      · split at hh
        · rename_i hk
          injection hk with hk1 hk2
          subst hk1 hk2
          injection hh with hh
          subst hh
          exact ⟨r, n, hr, by rw [hback]; exact he⟩
        · cases hh
    · intro j q hh
      rw [recall_app] at hh
      split at hh
      · rename_i hc
        rcases e3 j q hc with hh | ⟨r', k, hk, hr', hh⟩
        · exact .inl hh
        · exact .inr ⟨r', k, by omega, hr', hh⟩
      · split at hh
        · rename_i hk
          injection hk with hk1 hk2
          subst hk1 hk2
          exact .inr ⟨r, n0, by omega, hr, h2⟩
        · cases hh

/-- after a try -/
theorem Goes.then {n num p : Nat} {e : Ex} {σ : PS} {u o : Option Nat} {j : PJob} (h : Goes g s hook n (.try_ e num) p σ u)
    (hh : ∀ m σ1, pk g s hook m (.try_ e num) p σ = some (u, σ1) → Agree g s σ1 → ∃ m' σ2, pk g s hook m' j p σ = some (o, σ2) ∧ Agree g s σ2 ∧ Fresh g s n σ1 σ2) : Goes g s hook (n + 1) j p σ o := by
  obtain ⟨m, σ1, h1, h2, h3⟩ := h
  obtain ⟨m', σ2, e1, e2, e3⟩ := hh m σ1 h1 h2
  exact ⟨m', σ2, e1, e2, h3.trans e3 (by omega) (by omega)⟩

theorem goes (H : Fits g fs) : ∀ n, (∀ e p o, Rt g e → p ≤ s.length → ev g s n e p = some o → ∀ σ num, Agree g s σ → Goes g s hook n (.node e num) p σ o) ∧
    (∀ k e p o, 7 ≤ k ∧ k ≤ 11 → Rt g e → p ≤ s.length → evK g s n k e p = some o → ∀ σ num, Agree g s σ → Goes g s hook n (.one k e num) p σ o) ∧
    (∀ es p o, (∀ e ∈ es, Rt g e) → p ≤ s.length → evS g s n es p = some o → ∀ σ num, Agree g s σ → Goes g s hook n (.seq es num) p σ o) ∧
    (∀ es p o, (∀ e ∈ es, Rt g e) → p ≤ s.length → evA g s n es p = some o → ∀ σ num, Agree g s σ → Goes g s hook n (.alt es num) p σ o) ∧
    (∀ e p o, Rt g e → p ≤ s.length → evR g s n e p = some o → ∀ σ num, Agree g s σ → Goes g s hook n (.rep e num) p σ o) := by
  intro n
  induction n using Nat.strongRecOn with
  | _ n ih =>
    cases n with
    | zero => exact ⟨fun e p o _ _ h => (by cases h), fun k e p o _ _ _ h => (by cases h), fun es p o _ _ h => (by cases h), fun es p o _ _ h => (by cases h), fun e p o _ _ h => (by cases h)⟩
    | succ n =>
      obtain ⟨i1, i2, i3, i4, i5⟩ := ih n (by omega)
      have tl := fun e p o hrt hp he => (told (s := s) H n).1 e p o hrt hp he
      refine ⟨?_, ?_, ?_, ?_, ?_⟩
      · rintro ⟨k, a, b, c, d, t, ks⟩ p o hrt hp h σ num hσ
        rw [ev_s] at h
        have hup : ∀ {j : PJob}, Goes g s hook n j p σ o → (∀ m, pk g s hook (m + 1) (.node (.mk k a b c d t ks) num) p σ = pk g s hook m j p σ) → Goes g s hook (n + 1) (.node (.mk k a b c d t ks) num) p σ o := by
          rintro j ⟨m, σ1, e1, e2, e3⟩ hj
          exact ⟨m + 1, σ1, by rw [hj]; exact e1, e2, e3.trans (k := n + 1) (Fresh.rfl' (n := 0)) (by omega) (by omega)⟩
        have hat : ∀ {σ1 : PS}, σ1.seen = σ.seen → pk g s hook 1 (.node (.mk k a b c d t ks) num) p σ = some (o, σ1) → Goes g s hook (n + 1) (.node (.mk k a b c d t ks) num) p σ o := fun hs hh => ⟨1, _, hh, hσ.of_eq hs, Fresh.of_eq hs⟩
        cases hrt with
        | mk _ _ _ _ _ _ _ hfit hname hkids =>
        rcases fit_cases hfit with ⟨rfl, h0⟩ | ⟨rfl, h0⟩ | ⟨rfl, h0, _, _⟩ | ⟨rfl, h0, _⟩ | ⟨rfl, h2, h8⟩ | ⟨rfl, h2, h8⟩ | ⟨h7, h11, h1⟩
        · rw [if_pos rfl] at h
          injection h with h; subst h
          exact hat rfl (by rw [pk_node, if_pos rfl])
        · rw [if_neg (by decide), if_pos rfl] at h
          injection h with h; subst h
          by_cases hc : p < s.length ∧ hasE a b c d (bt s p) = true
          · exact hat rfl (by rw [pk_node, if_neg (by decide), if_pos rfl, if_pos hc, if_pos hc])
          · exact hat (missS_seen _ _ _) (by rw [pk_node, if_neg (by decide), if_pos rfl, if_neg hc, if_neg hc])
        · rw [if_neg (by decide), if_neg (by decide), if_pos rfl] at h
          injection h with h; subst h
          by_cases hc : litAt s p t.data.toList = true
          · exact hat rfl (by rw [pk_node, if_neg (by decide), if_neg (by decide), if_pos rfl, if_pos hc, if_pos hc])
          · exact hat (missS_seen _ _ _) (by rw [pk_node, if_neg (by decide), if_neg (by decide), if_pos rfl, if_neg hc, if_neg hc])
        · rw [if_neg (by decide), if_neg (by decide), if_neg (by decide), if_pos rfl] at h
          obtain ⟨r, hr, _⟩ := fnd_at (hname rfl)
          rw [hr] at h
          obtain ⟨m, σ1, e1, e2, e3⟩ := goes_rule (hook := hook) H hp hr h (fun n0 hn0 o ho σ num hσ => (ih n0 (by omega)).1 r.2 p o (H.right r (List.mem_of_getElem? hr)) hp ho σ num hσ) hσ
          exact ⟨m + 1, σ1, by rw [pk_node, if_neg (by decide), if_neg (by decide), if_neg (by decide), if_pos rfl]; exact e1, e2, e3⟩
        · rw [if_neg (by decide), if_neg (by decide), if_neg (by decide), if_neg (by decide), if_pos rfl] at h
          exact hup (i3 ks p o hkids hp h σ (num + 1) hσ) fun m => by rw [pk_node, if_neg (by decide), if_neg (by decide), if_neg (by decide), if_neg (by decide), if_pos rfl]
        · rw [if_neg (by decide), if_neg (by decide), if_neg (by decide), if_neg (by decide), if_neg (by decide), if_pos rfl] at h
          exact hup (i4 ks p o hkids hp h σ (num + 1) hσ) fun m => by rw [pk_node, if_neg (by decide), if_neg (by decide), if_neg (by decide), if_neg (by decide), if_neg (by decide), if_pos rfl]
        · rw [if_neg (by omega), if_neg (by omega), if_neg (by omega), if_neg (by omega), if_neg (by omega), if_neg (by omega)] at h
          cases ks with
          | nil => simp at h1
          | cons e es =>
            exact hup (i2 k e p o ⟨h7, h11⟩ (hkids e (by simp)) hp h σ num hσ) fun m => by rw [pk_node, if_neg (by omega), if_neg (by omega), if_neg (by omega), if_neg (by omega), if_neg (by omega), if_neg (by omega)]
      · rintro k e p o hk hrt hp h σ num hσ
        rw [evK_s] at h
        by_cases k7 : k = 7
        · subst k7
          rw [if_pos rfl] at h
          cases n with
          | zero => cases h
          | succ n =>
            rw [evR_s] at h
            obtain ⟨j1, _, _, _, j5⟩ := ih n (by omega)
            cases he : ev g s n e p with
            | none => rw [he] at h; cases h
            | some u =>
              rw [he] at h
              obtain ⟨m, σ1, e1, e2, e3⟩ := (j1 e p u hrt hp he σ (num + 1) hσ).try_
              cases u with
              | none =>
                injection h with h; subst h
                exact ⟨m + 1, σ1, by simp only [pk, e1]; rfl, e2, e3.trans (k := n + 1 + 1) (Fresh.rfl' (n := 0)) (by omega) (by omega)⟩
              | some to =>
                have ht := (told (s := s) H n).1 e p _ hrt hp he
                obtain ⟨m', σ2, f1, f2, f3⟩ := j5 e to o hrt ht.2.1 h σ1 (num + 1) e2
                refine ⟨max m m' + 1, σ2, ?_, f2, e3.trans f3 (by omega) (by omega)⟩
                simp only [pk, pk_le e1 (Nat.le_max_left m m')]
                rw [if_neg (by decide), if_neg (by decide), if_neg (by decide)]
                exact pk_le f1 (Nat.le_max_right m m')
        rw [if_neg k7] at h
        cases he : ev g s n e p with
        | none => rw [he] at h; cases h
        | some u =>
          rw [he] at h
          obtain ⟨m, σ1, e1, e2, e3⟩ := (i1 e p u hrt hp he σ (num + 1) hσ).try_
          cases u with
          | none =>
            injection h with h; subst h
            exact ⟨m + 1, σ1, by simp only [pk, e1], e2, e3.trans (k := n + 1) (Fresh.rfl' (n := 0)) (by omega) (by omega)⟩
          | some to =>
            simp only at h
            by_cases k8 : k = 8
            · rw [if_pos k8] at h
              subst k8
              obtain ⟨m', σ2, f1, f2, f3⟩ := i5 e to o hrt (tl e p _ hrt hp he).2.1 h σ1 (num + 1) e2
              refine ⟨max m m' + 1, σ2, ?_, f2, e3.trans f3 (by omega) (by omega)⟩
              simp only [pk, pk_le e1 (Nat.le_max_left m m')]
              rw [if_neg (by decide), if_neg (by decide), if_neg (by decide)]
              exact pk_le f1 (Nat.le_max_right m m')
            · rw [if_neg k8] at h
              refine ⟨m + 1, σ1, ?_, e2, e3.trans (k := n + 1) (Fresh.rfl' (n := 0)) (by omega) (by omega)⟩
              simp only [pk, e1]
              by_cases k9 : k = 9
              · subst k9; simp at h ⊢; exact h
              by_cases k10 : k = 10
              · subst k10; simp at h ⊢; exact h
              have k11 : k = 11 := by omega
              subst k11
              simp at h ⊢; exact h
      · rintro es p o hrt hp h σ num hσ
        cases es with
        | nil =>
          rw [evS_nil] at h
          injection h with h; subst h
          exact ⟨1, σ, rfl, hσ, Fresh.rfl'⟩
        | cons e es =>
          rw [evS_cons] at h
          cases he : ev g s n e p with
          | none => rw [he] at h; cases h
          | some u =>
            rw [he] at h
            obtain ⟨m, σ1, e1, e2, e3⟩ := (i1 e p u (hrt e (by simp)) hp he σ num hσ).try_
            cases u with
            | none =>
              injection h with h; subst h
              exact ⟨m + 1, σ1, by simp only [pk, e1], e2, e3.trans (k := n + 1) (Fresh.rfl' (n := 0)) (by omega) (by omega)⟩
            | some to =>
              obtain ⟨m', σ2, f1, f2, f3⟩ := i3 es to o (fun e he => hrt e (by simp [he])) (tl e p _ (hrt e (by simp)) hp he).2.1 h σ1 (num + nodes e) e2
              refine ⟨max m m' + 1, σ2, ?_, f2, e3.trans f3 (by omega) (by omega)⟩
              simp only [pk, pk_le e1 (Nat.le_max_left m m')]
              exact pk_le f1 (Nat.le_max_right m m')
      · rintro es p o hrt hp h σ num hσ
        cases es with
        | nil =>
          rw [evA_nil] at h
          injection h with h; subst h
          exact ⟨1, σ, rfl, hσ, Fresh.rfl'⟩
        | cons e es =>
          rw [evA_cons] at h
          cases he : ev g s n e p with
          | none => rw [he] at h; cases h
          | some u =>
            rw [he] at h
            obtain ⟨m, σ1, e1, e2, e3⟩ := (i1 e p u (hrt e (by simp)) hp he σ num hσ).try_
            cases u with
            | some to =>
              injection h with h; subst h
              exact ⟨m + 1, σ1, by simp only [pk, e1], e2, e3.trans (k := n + 1) (Fresh.rfl' (n := 0)) (by omega) (by omega)⟩
            | none =>
              obtain ⟨m', σ2, f1, f2, f3⟩ := i4 es p o (fun e he => hrt e (by simp [he])) hp h σ1 (num + nodes e) e2
              refine ⟨max m m' + 1, σ2, ?_, f2, e3.trans f3 (by omega) (by omega)⟩
              simp only [pk, pk_le e1 (Nat.le_max_left m m')]
              exact pk_le f1 (Nat.le_max_right m m')
      · rintro e p o hrt hp h σ num hσ
        rw [evR_s] at h
        cases he : ev g s n e p with
        | none => rw [he] at h; cases h
        | some u =>
          rw [he] at h
          obtain ⟨m, σ1, e1, e2, e3⟩ := (i1 e p u hrt hp he σ num hσ).try_
          cases u with
          | none =>
            injection h with h; subst h
            exact ⟨m + 1, σ1, by simp only [pk, e1], e2, e3.trans (k := n + 1) (Fresh.rfl' (n := 0)) (by omega) (by omega)⟩
          | some to =>
            obtain ⟨m', σ2, f1, f2, f3⟩ := i5 e to o hrt (tl e p _ hrt hp he).2.1 h σ1 num e2
            refine ⟨max m m' + 1, σ2, ?_, f2, e3.trans f3 (by omega) (by omega)⟩
            simp only [pk, pk_le e1 (Nat.le_max_left m m')]
            exact pk_le f1 (Nat.le_max_right m m')
end
end Go.Proofs.YtndhbdbfjkmloaaGreatDoor
