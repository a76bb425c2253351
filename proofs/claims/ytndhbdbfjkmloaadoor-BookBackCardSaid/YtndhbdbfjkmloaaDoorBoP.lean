/- Books, plain: cases as lines of a text; what is printed is read as it was. -/
import Derived.Test.YtndhbdbfjkmloaaDoorBkS
import Derived.Test.YtndhbdbfjkmloaaDoorQuoLaw
import Derived.Test.YtndhbdbfjkmloaaDoorQoP
import Derived.Lib.SplitLaws
namespace Go.Proofs.YtndhbdbfjkmloaaDoor
open Go.RowKit

/-- "accept", "reject", "prefix" -/
def wdA : List UInt8 := [97, 99, 99, 101, 112, 116]
def wdR : List UInt8 := [114, 101, 106, 101, 99, 116]
def wdP : List UInt8 := [112, 114, 101, 102, 105, 120]
/-- how a line begins -/
def headC (k n : Int) : List UInt8 := if k = 1 then wdA ++ [32] else if k = 2 then wdR ++ [32] else wdP ++ 32 :: (Lib.itoa n ++ [32])
/-- a case as a line, without its end -/
def lineC (c : Cs) : List UInt8 := headC c.1 c.2.1 ++ litL c.2.2.data.toList
def bookL (l : List Cs) : List UInt8 := l.flatMap fun c => lineC c ++ [10]
theorem bookL_snoc (l : List Cs) (c : Cs) : bookL (l ++ [c]) = bookL l ++ (lineC c ++ [10]) := by simp [bookL]
/-- a text cut at its first blank -/
def cutP : List UInt8 → List UInt8 × List UInt8
  | [] => ([], [])
  | b :: l => if b = 32 then ([], l) else (b :: (cutP l).1, (cutP l).2)
/-- a text as its lines -/
def linesP : List UInt8 → List (List UInt8)
  | [] => [[]]
  | b :: l => if b = 10 then [] :: linesP l else match linesP l with
    | [] => [[b]]
    | x :: r => (b :: x) :: r
theorem linesP_ne (l : List UInt8) : linesP l ≠ [] := by
  cases l with
  | nil => simp [linesP]
  | cons b l =>
    rw [linesP]
    split
    · simp
    · split <;> simp

theorem index_eqP (c : UInt8) (l : List UInt8) : Lib.index (c :: l) [c] = ((0 : Nat) : Int) := by rw [Lib.index]; simp [List.isPrefixOf]
theorem index_neP {b c : UInt8} (l : List UInt8) (h : b ≠ c) : Lib.index (b :: l) [c] = if Lib.index l [c] == -1 then -1 else Lib.index l [c] + 1 := by
  have hp : ([c] : List UInt8).isPrefixOf (b :: l) = false := by simp [List.isPrefixOf, Ne.symm h]
  rw [Lib.index, hp]
  simp
theorem cut_is : ∀ l : List UInt8, (Lib.cut l [32]).1 = (cutP l).1 ∧ (Lib.cut l [32]).2.1 = (cutP l).2
  | [] => by
    unfold Lib.cut
    rw [if_neg (by simp [Lib.index])]
    exact ⟨rfl, rfl⟩
  | b :: l => by
    obtain ⟨h1, h2⟩ := cut_is l
    by_cases hb : b = 32
    · subst hb
      unfold Lib.cut
      rw [index_eqP, if_pos (by omega), cutP, if_pos rfl]
      exact ⟨rfl, rfl⟩
    · rw [cutP, if_neg hb]
      unfold Lib.cut at h1 h2 ⊢
      rw [index_neP l hb]
      by_cases hm : Lib.index l [32] = -1
      · rw [if_neg (by rw [hm]; omega)] at h1 h2
        rw [if_pos (beq_iff_eq.2 hm), if_neg (by omega)]
        simp only at h1 h2 ⊢
        exact ⟨by rw [← h1], h2⟩
      · have hge := Lib.index_ge l [32]
        obtain ⟨j, hj⟩ : ∃ j : Nat, Lib.index l [32] = j := ⟨(Lib.index l [32]).toNat, by omega⟩
        rw [hj, if_pos (by omega)] at h1 h2
        have hx : (if (Lib.index l [32] == -1) = true then (-1 : Int) else Lib.index l [32] + 1) = ((j + 1 : Nat) : Int) := by rw [if_neg (by simpa using hm), hj]; omega
        rw [hx, if_pos (by omega)]
        simp only [Int.toNat_natCast, List.length_singleton] at h1 h2 ⊢
        exact ⟨by rw [List.take_succ_cons, h1], by rw [show j + 1 + 1 = (j + 1) + 1 from rfl, List.drop_succ_cons]; exact h2⟩
theorem splitK_is (c : UInt8) (hc : c = 10) : ∀ l : List UInt8, Lib.splitK [c] 0 (Lib.count l [c]) l = linesP l
  | [] => by rw [Lib.count_miss (by simp [Lib.index])]; rfl
  | b :: l => by
    have ih := splitK_is c hc l
    by_cases hb : b = c
    · subst hb
      rw [Lib.count_cons_eq, Nat.add_comm, Lib.splitK, index_eqP, if_neg (by decide), linesP, if_pos hc]
      show [] :: Lib.splitK [b] 0 (Lib.count l [b]) l = _
      rw [ih]
    · rw [Lib.count_cons_ne _ _ _ hb, linesP, if_neg (by rw [← hc]; exact hb), ← ih]
      by_cases hm : Lib.index l [c] = -1
      · rw [Lib.count_miss hm]
        rfl
      · have hge := Lib.index_ge l [c]
        obtain ⟨j, hj⟩ : ∃ j : Nat, Lib.index l [c] = j := ⟨(Lib.index l [c]).toNat, by omega⟩
        have hx : (if (Lib.index l [c] == -1) = true then (-1 : Int) else Lib.index l [c] + 1) = ((j + 1 : Nat) : Int) := by rw [if_neg (by simpa using hm), hj]; omega
        rw [Lib.count_hit (by simp) hj, Nat.add_comm, Lib.splitK, Lib.splitK, index_neP l hb, hx, hj, if_neg (by rw [beq_iff_eq]; omega), if_neg (by rw [beq_iff_eq]; omega)]
        simp
/-- what strings.Split makes of a text -/
theorem split_is (s : ByteArray) : (Lib.splitB ⟨#[10]⟩ 0 (Lib.countB s ⟨#[10]⟩) s).map (·.data.toList) = linesP s.data.toList := by
  rw [Lib.splitB_data]
  exact splitK_is 10 rfl s.data.toList
theorem linesP_app : ∀ (x l : List UInt8), (∀ b ∈ x, b ≠ 10) → linesP (x ++ 10 :: l) = x :: linesP l
  | [], l, _ => by show linesP (10 :: l) = _; rw [linesP, if_pos rfl]
  | b :: x, l, h => by
    rw [List.cons_append, linesP, if_neg (h b (by simp)), linesP_app x l fun y hy => h y (by simp [hy])]
theorem cutP_app : ∀ (x l : List UInt8), (∀ b ∈ x, b ≠ 32) → cutP (x ++ 32 :: l) = (x, l)
  | [], l, _ => by show cutP (32 :: l) = _; rw [cutP, if_pos rfl]
  | b :: x, l, h => by
    rw [List.cons_append, cutP, if_neg (h b (by simp)), cutP_app x l fun y hy => h y (by simp [hy])]

/-- what quote.Unlit makes of a text -/
def unlR (r : List UInt8) : Option (List UInt8 × Nat) := if bt r 0 = 39 ∨ bt r 0 = 34 then unl (bt r 0) sgU.data.toList r.length (r.drop 1) else none
/-- a text that is a literal from its beginning to its end -/
def unlW (r : List UInt8) : Option (List UInt8) := match unlR r with
  | some (o, c) => if 1 + c = r.length then some o else none
  | none => none
/-- what quote.Undec answers -/
def undR (l : List UInt8) : Option Int := match Lib.atoiAll l with
  | .ok v => if 9 < l.length ∨ v < 0 ∨ Lib.itoa v ≠ l then none else some v
  | _ => none
def noC : Cs := (0, 0, ⟨#[]⟩)
def finC (k n : Int) (r : List UInt8) : Cs × Int := match unlW r with
  | some o => ((k, n, ⟨o.toArray⟩), fitC (k, n, ⟨o.toArray⟩))
  | none => (noC, 4)
/-- what book.one answers of a line -/
def oneR (l : List UInt8) : Cs × Int :=
  if (cutP l).1 = wdA then finC 1 0 (cutP l).2
  else if (cutP l).1 = wdR then finC 2 0 (cutP l).2
  else if (cutP l).1 = wdP then (match undR (cutP (cutP l).2).1 with
    | some n => finC 4 n (cutP (cutP l).2).2
    | none => (noC, 4))
  else (noC, 4)
/-- a line that says nothing -/
def skipL (l : List UInt8) : Prop := l = [] ∨ bt l 0 = 35
instance (l : List UInt8) : Decidable (skipL l) := by unfold skipL; infer_instance
/-- what book.Read answers: the lines from i on, what was read so far -/
def readR : List (List UInt8) → Nat → List Cs → List Cs × Int × Int
  | [], _, acc => (acc, 0, 0)
  | x :: l, i, acc => if skipL x then readR l (i + 1) acc else
    if (oneR x).2 = 0 then (if acc.length = 40 then ([], (i : Int) + 1, 2) else readR l (i + 1) (acc ++ [(oneR x).1])) else ([], (i : Int) + 1, (oneR x).2)
def breadR (s : List UInt8) : List Cs × Int × Int := if 2000 < s.length then ([], 0, 2) else readR (linesP s) 0 []

theorem unl_lit (t : List UInt8) : unlW (litL t) = some t := by
  have h0 : bt (litL t) 0 = 39 := rfl
  have hl : (litL t).length = (encAll false t).length + 2 := by simp [litL]
  have hd : (litL t).drop 1 = encAll false t ++ 39 :: [] := rfl
  unfold unlW unlR
  rw [h0, if_pos (.inl rfl), hd, unl_enc [] t _ (by omega)]
  simp only
  rw [if_pos (by omega)]
theorem dd_digs (u : Nat) : ∀ b ∈ Lib.decDigits u, 48 ≤ b.toNat ∧ b.toNat ≤ 57 := by
  induction u using Nat.strongRecOn with
  | _ u ih =>
    intro b hb
    by_cases h : u < 10
    · rw [dd_small h, List.mem_singleton] at hb
      rw [hb, dig_nat h]; omega
    · rw [dd_big h, List.mem_append, List.mem_singleton] at hb
      rcases hb with hb | rfl
      · exact ih (u / 10) (by omega) b hb
      · rw [dig_nat (by omega)]; omega
theorem und_dec {n : Int} (h0 : 0 ≤ n) (h1 : n < 1000000000) : undR (Lib.itoa n) = some n := by
  unfold undR
  rw [atoi_itoa (by omega) (by omega)]
  simp only
  rw [if_neg (by have := itoa_nine h0 h1; rintro (h | h | h); omega; omega; exact h rfl)]
theorem fit_60x {c : Cs} (h : fitC c = 0) : c.2.2.size ≤ 60 := by
  unfold fitC at h
  split at h
  · omega
  · omega
theorem fit_kindx {k m : Int} {t : ByteArray} (h : fitC (k, m, t) = 0) : (k = 1 ∧ m = 0) ∨ (k = 2 ∧ m = 0) ∨ (k = 4 ∧ 0 ≤ m ∧ m ≤ 60) := by
  have h60 := fit_60x h
  simp only at h60
  unfold fitC at h
  simp only at h
  split at h
  · omega
  split at h
  · rename_i h12
    split at h
    · omega
    · omega
  split at h
  · split at h
    · omega
    · omega
  · omega
theorem mk_toArrayB (t : ByteArray) : (⟨t.data.toList.toArray⟩ : ByteArray) = t := by simp
theorem fin_lit (k n : Int) (t : ByteArray) : finC k n (litL t.data.toList) = ((k, n, t), fitC (k, n, t)) := by
  unfold finC
  rw [unl_lit]
/-- a case that was printed is read as it was -/
theorem one_line {c : Cs} (h : fitC c = 0) : oneR (lineC c) = (c, 0) := by
  obtain ⟨k, m, t⟩ := c
  rcases fit_kindx h with ⟨rfl, rfl⟩ | ⟨rfl, rfl⟩ | ⟨rfl, h0, h1⟩
  · have e : lineC (1, 0, t) = wdA ++ 32 :: litL t.data.toList := by unfold lineC headC; simp
    unfold oneR
    rw [e, cutP_app _ _ (by decide)]
    simp only
    rw [if_pos trivial, fin_lit, h]
  · have e : lineC (2, 0, t) = wdR ++ 32 :: litL t.data.toList := by unfold lineC headC; simp
    unfold oneR
    rw [e, cutP_app _ _ (by decide)]
    simp only
    rw [if_neg (by decide), if_pos trivial, fin_lit, h]
  · have e : lineC (4, m, t) = wdP ++ 32 :: (Lib.itoa m ++ 32 :: litL t.data.toList) := by unfold lineC headC; simp
    have hd : ∀ b ∈ Lib.itoa m, b ≠ 32 := by
      unfold Lib.itoa
      rw [if_neg (by omega)]
      intro b hb e
      have := dd_digs _ b hb
      rw [e] at this
      exact absurd this.1 (by decide)
    unfold oneR
    rw [e, cutP_app _ _ (by decide)]
    simp only
    rw [if_neg (by decide), if_neg (by decide), if_pos trivial, cutP_app _ _ hd]
    simp only
    rw [und_dec h0 (by omega)]
    simp only
    rw [fin_lit, h]
theorem line_10 {c : Cs} (h : fitC c = 0) : (∀ b ∈ lineC c, b ≠ 10) ∧ ¬ skipL (lineC c) := by
  obtain ⟨k, m, t⟩ := c
  have hA : ∀ b ∈ wdA, b ≠ 10 := by decide
  have hR : ∀ b ∈ wdR, b ≠ 10 := by decide
  have hP : ∀ b ∈ wdP, b ≠ 10 := by decide
  have hl : ∀ b ∈ litL t.data.toList, b ≠ 10 := fun b hb e => by have := litL_seen _ b hb; rw [e] at this; exact absurd this.1 (by decide)
  rcases fit_kindx h with ⟨rfl, rfl⟩ | ⟨rfl, rfl⟩ | ⟨rfl, h0, h1⟩
  · have e : lineC (1, 0, t) = wdA ++ 32 :: litL t.data.toList := by unfold lineC headC; simp
    rw [e]
    refine ⟨fun b hb => ?_, ?_⟩
    · rcases List.mem_append.1 hb with hb | hb
      · exact hA b hb
      · rcases List.mem_cons.1 hb with rfl | hb
        · decide
        · exact hl b hb
    · rintro (h | h)
      · simp [wdA] at h
      · exact absurd (show (97 : Nat) = 35 from h) (by decide)
  · have e : lineC (2, 0, t) = wdR ++ 32 :: litL t.data.toList := by unfold lineC headC; simp
    rw [e]
    refine ⟨fun b hb => ?_, ?_⟩
    · rcases List.mem_append.1 hb with hb | hb
      · exact hR b hb
      · rcases List.mem_cons.1 hb with rfl | hb
        · decide
        · exact hl b hb
    · rintro (h | h)
      · simp [wdR] at h
      · exact absurd (show (114 : Nat) = 35 from h) (by decide)
  · have e : lineC (4, m, t) = wdP ++ 32 :: (Lib.itoa m ++ 32 :: litL t.data.toList) := by unfold lineC headC; simp
    have hd : ∀ b ∈ Lib.itoa m, b ≠ 10 := by
      unfold Lib.itoa
      rw [if_neg (by omega)]
      intro b hb e
      have := dd_digs _ b hb
      rw [e] at this
      exact absurd this.1 (by decide)
    rw [e]
    refine ⟨fun b hb => ?_, ?_⟩
    · rcases List.mem_append.1 hb with hb | hb
      · exact hP b hb
      · rcases List.mem_cons.1 hb with rfl | hb
        · decide
        · rcases List.mem_append.1 hb with hb | hb
          · exact hd b hb
          · rcases List.mem_cons.1 hb with rfl | hb
            · decide
            · exact hl b hb
    · rintro (h | h)
      · simp [wdP] at h
      · exact absurd (show (112 : Nat) = 35 from h) (by decide)
theorem read_lines : ∀ (l : List Cs) (i : Nat) (acc : List Cs), (∀ c ∈ l, fitC c = 0) → acc.length + l.length ≤ 40 → readR (linesP (bookL l)) i acc = (acc ++ l, 0, 0)
  | [], i, acc, _, _ => by
    show readR [[]] i acc = _
    rw [readR, if_pos (.inl rfl), readR, List.append_nil]
  | c :: l, i, acc, h, hl => by
    obtain ⟨h1, h2⟩ := line_10 (h c (by simp))
    rw [show bookL (c :: l) = lineC c ++ 10 :: bookL l by simp [bookL], linesP_app _ _ h1, readR, if_neg h2, one_line (h c (by simp)), if_pos rfl, if_neg (by simp at hl; omega), read_lines l _ _ (fun x hx => h x (by simp [hx])) (by simp at hl ⊢; omega)]
    simp
theorem chk_fitx : ∀ {l : List Cs}, chkC l = 0 → ∀ c ∈ l, fitC c = 0
  | [], _, c, hc => by cases hc
  | x :: l, h, c, hc => by
    rw [chkC] at h
    split at h
    · rename_i hn; exact absurd h hn
    · rename_i hn
      rcases List.mem_cons.1 hc with rfl | hc
      · exact Classical.byContradiction hn
      · exact chk_fitx h c hc
theorem chk_allx : ∀ {l : List Cs}, (∀ c ∈ l, fitC c = 0) → chkC l = 0
  | [], _ => rfl
  | c :: l, h => by rw [chkC, if_neg (by simp [h c (by simp)])]; exact chk_allx fun x hx => h x (by simp [hx])
/-- P60, P61: what is printed is read as it was -/
theorem book_back {l : List Cs} (h : bchkC l = 0) : (2000 < (bookL l).length ∧ breadR (bookL l) = ([], 0, 2)) ∨ ((bookL l).length ≤ 2000 ∧ breadR (bookL l) = (l, 0, 0)) := by
  unfold bchkC at h
  split at h
  · cases h
  · rename_i h40
    rcases Nat.lt_or_ge 2000 (bookL l).length with h2 | h2
    · exact .inl ⟨h2, by unfold breadR; rw [if_pos h2]⟩
    · refine .inr ⟨h2, ?_⟩
      unfold breadR
      rw [if_neg (by omega), read_lines l 0 [] (chk_fitx h) (by simp; omega)]
      rfl
theorem fin_fit {k n : Int} {r : List UInt8} {c : Cs} {x : Int} (h : finC k n r = (c, x)) (hx : x = 0) : fitC c = 0 := by
  unfold finC at h
  split at h
  · injection h with h1 h2
    rw [← h1, h2, hx]
  · injection h with h1 h2
    omega
theorem one_fit {l : List UInt8} (h : (oneR l).2 = 0) : fitC (oneR l).1 = 0 := by
  unfold oneR at h ⊢
  split at h
  · rename_i h1; rw [if_pos h1]; exact fin_fit rfl h
  rename_i h1
  rw [if_neg h1]
  split at h
  · rename_i h2; rw [if_pos h2]; exact fin_fit rfl h
  rename_i h2
  rw [if_neg h2]
  split at h
  · rename_i h3
    rw [if_pos h3]
    split at h
    · rename_i n hn
      exact fin_fit rfl h
    · cases h
  · cases h
theorem read_ok : ∀ (L : List (List UInt8)) (i : Nat) (acc : List Cs), (∀ c ∈ acc, fitC c = 0) → acc.length ≤ 40 →
    ((readR L i acc).2.2 = 0 ∧ (readR L i acc).2.1 = 0 ∧ (∀ c ∈ (readR L i acc).1, fitC c = 0) ∧ (readR L i acc).1.length ≤ 40) ∨ ((readR L i acc).2.2 ≠ 0 ∧ 0 ≤ (readR L i acc).2.1 ∧ (readR L i acc).1 = [])
  | [], i, acc, h, hl => .inl ⟨rfl, rfl, h, hl⟩
  | x :: L, i, acc, h, hl => by
    rw [readR]
    split
    · exact read_ok L _ acc h hl
    · split
      · rename_i h0
        split
        · exact .inr ⟨by simp, by simp only; omega, rfl⟩
        · refine read_ok L _ _ (fun c hc => ?_) (by simp; omega)
          rcases List.mem_append.1 hc with hc | hc
          · exact h c hc
          · rw [List.mem_singleton.1 hc]; exact one_fit h0
      · rename_i h0
        exact .inr ⟨h0, by simp only; omega, rfl⟩
/-- what is read can be printed -/
theorem bread_ok (s : List UInt8) : ((breadR s).2.2 = 0 ∧ (breadR s).2.1 = 0 ∧ bchkC (breadR s).1 = 0) ∨ ((breadR s).2.2 ≠ 0 ∧ 0 ≤ (breadR s).2.1 ∧ (breadR s).1 = []) := by
  unfold breadR
  split
  · exact .inr ⟨by simp, by simp, rfl⟩
  · rcases read_ok (linesP s) 0 [] (fun c hc => by cases hc) (by simp) with ⟨h1, h2, h3, h4⟩ | h
    · exact .inl ⟨h1, h2, by unfold bchkC; rw [if_neg (by omega)]; exact chk_allx h3⟩
    · exact .inr h
end Go.Proofs.YtndhbdbfjkmloaaDoor
