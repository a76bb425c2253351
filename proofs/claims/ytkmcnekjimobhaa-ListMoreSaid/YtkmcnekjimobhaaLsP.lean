/- Texts of an alphabet in order, plain: the text of a rank, all texts from one on, what a list is. -/
import Derived.Test.YtkmcnekjimobhaaGP
namespace Go.Proofs.Ytkmcnekjimobhaa
open Go.RowKit

/-- the text of a rank -/
noncomputable def textOf (a : List UInt8) (r : Nat) : ByteArray := Classical.epsilon fun u => OverOk a u.data.toList ∧ rank a u.data.toList = r
theorem data_inj {u v : ByteArray} (h : u.data.toList = v.data.toList) : u = v := by
  obtain ⟨⟨u⟩⟩ := u
  obtain ⟨⟨v⟩⟩ := v
  simp at h
  rw [h]
theorem textOf_is {a : List UInt8} {u : ByteArray} (h : OverOk a u.data.toList) : textOf a (rank a u.data.toList) = u := by
  obtain ⟨h1, h2⟩ := Classical.epsilon_spec (p := fun v : ByteArray => OverOk a v.data.toList ∧ rank a v.data.toList = rank a u.data.toList) ⟨u, h, rfl⟩
  exact data_inj (rank_inj h1.2.2 h.2.2 h2)
/-- the digits of a number -/
def digs (a : List UInt8) : Nat → Nat → List UInt8
  | 0, _ => []
  | k + 1, n => digs a k (n / a.length) ++ [a.getD (n % a.length) 0]
theorem digs_spec {a : List UInt8} (ha : AlphaOk a) : ∀ (k n : Nat), n < a.length ^ k → (digs a k n).length = k ∧ OverA a (digs a k n) ∧ val a (digs a k n) = n := by
  intro k
  have hm : 0 < a.length := by
    have := ha.1
    cases a with
    | nil => exact absurd rfl this
    | cons _ _ => simp
  induction k with
  | zero =>
    intro n hn
    refine ⟨rfl, fun c hc => by simp [digs] at hc, ?_⟩
    simp at hn
    simp [digs, val, hn]
  | succ k ih =>
    intro n hn
    obtain ⟨h1, h2, h3⟩ := ih (n / a.length) (by rw [Nat.div_lt_iff_lt_mul hm]; rwa [Nat.pow_succ] at hn)
    have hr : n % a.length < a.length := Nat.mod_lt _ hm
    have hg : a[n % a.length]? = some (a.getD (n % a.length) 0) := by rw [List.getD_eq_getElem?_getD, List.getElem?_eq_getElem hr]; rfl
    obtain ⟨i1, i2⟩ := idx_of ha hg
    refine ⟨by simp [digs, h1], ?_, ?_⟩
    · unfold digs
      exact h2.app fun c hc => by rw [List.mem_singleton.1 hc]; exact i1
    · unfold digs
      rw [val_snoc, h3, i2, Nat.mul_comm]
      exact Nat.div_add_mod n a.length
theorem shN_split {m : Nat} : ∀ (k n : Nat), n < shN m k → ∃ j r, j < k ∧ r < m ^ j ∧ n = shN m j + r
  | 0, n, h => by simp [shN] at h
  | k + 1, n, h => by
    by_cases h1 : n < shN m k
    · obtain ⟨j, r, h2, h3, h4⟩ := shN_split k n h1
      exact ⟨j, r, by omega, h3, h4⟩
    · refine ⟨k, n - shN m k, by omega, ?_, by omega⟩
      rw [shN] at h
      omega
theorem text_ex {a : List UInt8} (ha : AlphaOk a) {r : Nat} (hr : r < shN a.length 7) : ∃ u : ByteArray, OverOk a u.data.toList ∧ rank a u.data.toList = r := by
  obtain ⟨j, q, h1, h2, rfl⟩ := shN_split 7 r hr
  obtain ⟨d1, d2, d3⟩ := digs_spec ha j q h2
  refine ⟨⟨(digs a j q).toArray⟩, ⟨ha, by simp [d1]; omega, fun c hc => d2 c (by simpa using hc)⟩, ?_⟩
  simp [rank, d1, d3]
theorem textOf_spec {a : List UInt8} (ha : AlphaOk a) {r : Nat} (hr : r < shN a.length 7) : OverOk a (textOf a r).data.toList ∧ rank a (textOf a r).data.toList = r :=
  Classical.epsilon_spec (text_ex ha hr)
/-- all texts from one on, of at most n bytes -/
noncomputable def textsL (a : List UInt8) (s : List UInt8) (n : Nat) : List ByteArray := (List.range (shN a.length (n + 1) - rank a s)).map fun i => textOf a (rank a s + i)
theorem textsL_len (a s : List UInt8) (n : Nat) : (textsL a s n).length = shN a.length (n + 1) - rank a s := by simp [textsL]
theorem textsL_get {a s : List UInt8} {n i : Nat} (h : rank a s + i < shN a.length (n + 1)) : (textsL a s n)[i]? = some (textOf a (rank a s + i)) := by
  unfold textsL
  rw [List.getElem?_map, List.getElem?_range (by omega)]
  rfl
theorem rank_many {a l : List UInt8} (h : OverA a l) (n : Nat) : rank a l < shN a.length (n + 1) ↔ l.length ≤ n := by
  have h1 := rank_bd h
  constructor
  · intro h2
    rcases Nat.lt_or_ge n l.length with h3 | h3
    · have := shN_mono (m := a.length) (show n + 1 ≤ l.length by omega); omega
    · exact h3
  · intro h2
    have := shN_mono (m := a.length) (show l.length + 1 ≤ n + 1 by omega); omega
theorem mem_textsL {a s : List UInt8} {n : Nat} (ha : AlphaOk a) (hn : n ≤ 6) {u : ByteArray} : u ∈ textsL a s n ↔ OverOk a u.data.toList ∧ u.size ≤ n ∧ rank a s ≤ rank a u.data.toList := by
  have h7 : shN a.length (n + 1) ≤ shN a.length 7 := shN_mono (by omega)
  unfold textsL
  simp only [List.mem_map, List.mem_range]
  constructor
  · rintro ⟨i, hi, rfl⟩
    obtain ⟨h1, h2⟩ := textOf_spec ha (r := rank a s + i) (by omega)
    refine ⟨h1, ?_, by omega⟩
    rw [← size_list]
    exact (rank_many h1.2.2 n).1 (by omega)
  · rintro ⟨h1, h2, h3⟩
    have h4 := (rank_many h1.2.2 n).2 (by rw [size_list]; exact h2)
    exact ⟨rank a u.data.toList - rank a s, by omega, by rw [show rank a s + (rank a u.data.toList - rank a s) = rank a u.data.toList by omega, textOf_is h1]⟩
theorem textsL_nil {a s : List UInt8} {n : Nat} (h : shN a.length (n + 1) ≤ rank a s) : textsL a s n = [] := by
  unfold textsL
  rw [Nat.sub_eq_zero_of_le h]
  rfl
/-- where a list goes on: a text, or all is over -/
abbrev Cur := ByteArray × Bool
/-- what a list finds with a budget, and where it goes on -/
noncomputable def listL (acc : ByteArray → Bool) (a : List UInt8) (n : Nat) (c : Cur) (b : Nat) : List ByteArray × Cur :=
  if c.2 then ([], c) else
    if b < (textsL a c.1.data.toList n).length then (((textsL a c.1.data.toList n).take b).filter acc, (textOf a (rank a c.1.data.toList + b), false))
    else ((textsL a c.1.data.toList n).filter acc, (⟨#[]⟩, true))
/-- may a list go on there? -/
def CurOk (a : List UInt8) (n : Nat) (c : Cur) : Prop := OverOk a c.1.data.toList ∧ c.1.size ≤ n ∧ (c.2 = true → c.1.size = 0)
theorem rank_zero (a : List UInt8) : rank a [] = 0 := by simp [rank, shN, val]
theorem cur_start {a : List UInt8} (ha : AlphaOk a) (n : Nat) : CurOk a n (⟨#[]⟩, false) := ⟨⟨ha, by simp, by simp⟩, by show ByteArray.size ⟨#[]⟩ ≤ n; exact Nat.zero_le _, fun h => by cases h⟩
theorem listL_ok {acc : ByteArray → Bool} {a : List UInt8} {n : Nat} {c : Cur} {b : Nat} (hn : n ≤ 6) (h : CurOk a n c) : CurOk a n (listL acc a n c b).2 := by
  obtain ⟨h1, h2, h3⟩ := h
  have h7 : shN a.length (n + 1) ≤ shN a.length 7 := shN_mono (by omega)
  unfold listL
  split
  · exact ⟨h1, h2, h3⟩
  · split
    · rename_i hb
      rw [textsL_len] at hb
      obtain ⟨t1, t2⟩ := textOf_spec h1.1 (r := rank a c.1.data.toList + b) (by omega)
      refine ⟨t1, ?_, fun h => by cases h⟩
      rw [← size_list]
      exact (rank_many t1.2.2 n).1 (by omega)
    · exact ⟨⟨h1.1, by simp, by simp⟩, by show ByteArray.size ⟨#[]⟩ ≤ n; exact Nat.zero_le _, fun _ => rfl⟩
/-- two budgets one after the other are their sum -/
theorem listL_two {acc : ByteArray → Bool} {a : List UInt8} {n : Nat} {c : Cur} {b b' : Nat} (hn : n ≤ 6) (h : CurOk a n c) (hc : c.2 = false) :
    (listL acc a n c b).1 ++ (listL acc a n (listL acc a n c b).2 b').1 = (listL acc a n c (b + b')).1 ∧ (listL acc a n (listL acc a n c b).2 b').2 = (listL acc a n c (b + b')).2 := by
  obtain ⟨s, o⟩ := c
  obtain rfl : o = false := hc
  obtain ⟨h1, h2, h3⟩ := h
  have h7 : shN a.length (n + 1) ≤ shN a.length 7 := shN_mono (by omega)
  have hl := textsL_len a s.data.toList n
  simp only at h1 h2
  by_cases hb : b < (textsL a s.data.toList n).length
  · have e1 : listL acc a n (s, false) b = (((textsL a s.data.toList n).take b).filter acc, (textOf a (rank a s.data.toList + b), false)) := by
      unfold listL
      rw [if_neg (by simp), if_pos hb]
    rw [e1]
    obtain ⟨t1, t2⟩ := textOf_spec h1.1 (r := rank a s.data.toList + b) (by omega)
    have hT : textsL a (textOf a (rank a s.data.toList + b)).data.toList n = (textsL a s.data.toList n).drop b := by
      apply List.ext_getElem?
      intro i
      rw [List.getElem?_drop]
      by_cases hi : rank a s.data.toList + b + i < shN a.length (n + 1)
      · rw [textsL_get (by rw [t2]; exact hi), textsL_get (by omega), t2, Nat.add_assoc]
      · rw [List.getElem?_eq_none (by rw [textsL_len, t2]; omega), List.getElem?_eq_none (by rw [hl]; omega)]
    have hl2 : ((textsL a s.data.toList n).drop b).length = (textsL a s.data.toList n).length - b := List.length_drop
    unfold listL
    simp only [Bool.false_eq_true, if_false]
    rw [hT, hl2]
    by_cases hb' : b + b' < (textsL a s.data.toList n).length
    · rw [if_pos (by omega), if_pos hb']
      refine ⟨?_, by rw [t2, Nat.add_assoc]⟩
      rw [← List.filter_append, List.take_add]
    · rw [if_neg (by omega), if_neg hb']
      exact ⟨by rw [← List.filter_append, List.take_append_drop], rfl⟩
  · have e1 : listL acc a n (s, false) b = ((textsL a s.data.toList n).filter acc, (⟨#[]⟩, true)) := by
      unfold listL
      rw [if_neg (by simp), if_neg hb]
    rw [e1]
    unfold listL
    simp only [Bool.false_eq_true, if_false, if_true]
    rw [if_neg (by omega)]
    exact ⟨by simp, rfl⟩
theorem listL_over {acc : ByteArray → Bool} {a : List UInt8} {n : Nat} {c : Cur} {b : Nat} (hc : c.2 = true) : listL acc a n c b = ([], c) := by
  unfold listL
  rw [if_pos hc]
/-- a list with enough of a budget -/
noncomputable def allL (acc : ByteArray → Bool) (a : List UInt8) (n : Nat) : List ByteArray := (textsL a [] n).filter acc
theorem listL_all {acc : ByteArray → Bool} {a : List UInt8} {n b : Nat} (hb : shN a.length (n + 1) ≤ b) : listL acc a n (⟨#[]⟩, false) b = (allL acc a n, (⟨#[]⟩, true)) := by
  unfold listL allL
  rw [if_neg (by simp), if_neg (by rw [textsL_len]; omega)]
theorem mem_allL {acc : ByteArray → Bool} {a : List UInt8} {n : Nat} (ha : AlphaOk a) (hn : n ≤ 6) {u : ByteArray} : u ∈ allL acc a n ↔ (OverOk a u.data.toList ∧ u.size ≤ n) ∧ acc u = true := by
  unfold allL
  rw [List.mem_filter, mem_textsL ha hn, rank_zero]
  constructor
  · rintro ⟨⟨h1, h2, _⟩, h3⟩
    exact ⟨⟨h1, h2⟩, h3⟩
  · rintro ⟨⟨h1, h2⟩, h3⟩
    exact ⟨⟨h1, h2, Nat.zero_le _⟩, h3⟩
theorem textsL_sorted {a s : List UInt8} {n : Nat} (ha : AlphaOk a) (hn : n ≤ 6) : (textsL a s n).Pairwise fun u v => rank a u.data.toList < rank a v.data.toList := by
  have h7 : shN a.length (n + 1) ≤ shN a.length 7 := shN_mono (by omega)
  unfold textsL
  rw [List.pairwise_map]
  refine List.Pairwise.imp_of_mem ?_ List.pairwise_lt_range
  intro i j hi hj hij
  rw [List.mem_range] at hi hj
  rw [(textOf_spec ha (by omega)).2, (textOf_spec ha (by omega)).2]
  omega
theorem allL_sorted {acc : ByteArray → Bool} {a : List UInt8} {n : Nat} (ha : AlphaOk a) (hn : n ≤ 6) : (allL acc a n).Pairwise fun u v => rank a u.data.toList < rank a v.data.toList := (textsL_sorted ha hn).filter _
end Go.Proofs.Ytkmcnekjimobhaa
