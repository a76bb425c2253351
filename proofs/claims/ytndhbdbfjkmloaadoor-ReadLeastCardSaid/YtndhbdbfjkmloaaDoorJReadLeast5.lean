/- Reading comes to an end; what is read is formed well: plain. Blanks and remarks ahead and behind say nothing: plain. What reading takes: the stream of signs, the leaves in order, and no fewer brackets than it must. Plain. A printed text as pieces: blanks, signs, leaves. Plain. -/
import Derived.Test.YtndhbdbfjkmloaaDoorJReadLeast3
import Derived.Test.YtndhbdbfjkmloaaDoorJReadLeast4
namespace Go.Proofs.YtndhbdbfjkmloaaDoor
open Go.RowKit

theorem unl_bd (q : Nat) (sg : List UInt8) : ∀ (f : Nat) (l : List UInt8) (o : List UInt8) (n : Nat), unl q sg f l = some (o, n) → 1 ≤ n ∧ n ≤ l.length ∧ o.length + 1 ≤ n
  | 0, _, _, _, h => by cases h
  | f + 1, l, o, n, h => by
    by_cases hl : l = []
    · subst hl; cases h
    · rw [unl_step _ _ _ hl] at h
      have h0 : 0 < l.length := List.length_pos_iff.2 hl
      split at h
      · injection h with h
        injection h with h1 h2
        subst h1 h2
        exact ⟨Nat.le_refl _, h0, Nat.le_refl _⟩
      · split at h
        · cases h
        · rename_i hn
          cases hu : unl q sg f (l.drop (nextN sg l).2) with
          | none => rw [hu] at h; cases h
          | some x =>
            obtain ⟨o', n'⟩ := x
            rw [hu] at h
            injection h with h
            injection h with h1 h2
            obtain ⟨i1, i2, i3⟩ := unl_bd q sg f _ o' n' hu
            have hb := (nextN_bd sg l hl).1
            rw [List.length_drop] at i2
            subst h1 h2
            simp only [List.length_cons]
            omega
theorem unc_bd : ∀ (f : Nat) (l : List UInt8) (acc w : List Nat) (n : Nat), acc.length = 4 → Words acc → unc f l acc = some (w, n) → 1 ≤ n ∧ n ≤ l.length ∧ w.length = 4 ∧ Words w
  | 0, _, _, _, _, _, _, h => by cases h
  | f + 1, [], _, _, _, _, _, h => by cases h
  | f + 1, x :: l, acc, w, n, ha, hw, h => by
    have hl : x :: l ≠ [] := by simp
    have hb := nextN_bd sgC _ hl
    rw [unc.eq_def] at h
    dsimp only at h
    generalize hn : nextN sgC (x :: l) = nx at h hb
    obtain ⟨b, m⟩ := nx
    simp only at h hb
    split at h
    · injection h with h
      injection h with h1 h2
      subst h1 h2
      exact ⟨Nat.le_refl _, by simp, ha, hw⟩
    · split at h
      · cases h
      · split at h
        · rename_i hm hc
          have hl2 : (x :: l).drop (m + 1) ≠ [] := by
            intro e
            have := congrArg List.length e
            have h1 := hc.1
            rw [List.length_drop] at this h1
            simp only [List.length_nil] at this
            omega
          have hb2 := nextN_bd sgC _ hl2
          generalize hn2 : nextN sgC ((x :: l).drop (m + 1)) = nx at h hb2
          obtain ⟨b2, m2⟩ := nx
          simp only at h hb2
          split at h
          · cases h
          · rename_i hne
            generalize hu : unc f ((x :: l).drop (m + 1 + m2)) (orW acc (rangeL b (b2 + 1 - b))) = R at h
            cases R with
            | none => cases h
            | some y =>
              obtain ⟨w', n'⟩ := y
              injection h with h
              injection h with h1 h2
              obtain ⟨i1, i2, i3, i4⟩ := unc_bd f _ _ w' n' rfl (orW_words hw (rangeL_words _ _)) hu
              have hb3 := hb2.1
              rw [List.length_drop] at i2 hb3
              subst h1 h2
              exact ⟨by omega, by omega, i3, i4⟩
        · generalize hu : unc f ((x :: l).drop m) (orW acc (rangeL b 1)) = R at h
          cases R with
          | none => cases h
          | some y =>
            obtain ⟨w', n'⟩ := y
            injection h with h
            injection h with h1 h2
            obtain ⟨i1, i2, i3, i4⟩ := unc_bd f _ _ w' n' rfl (orW_words hw (rangeL_words _ _)) hu
            have hb3 := hb.1
            rw [List.length_drop] at i2
            subst h1 h2
            exact ⟨by omega, by omega, i3, i4⟩

/-- a node without kids that fits in so many bytes -/
def Leaf (m : Nat) (e : Ex) : Prop := ∃ (k a b c d : Int) (t : ByteArray), e = .mk k a b c d t [] ∧ I64 k ∧ U64 a ∧ U64 b ∧ U64 c ∧ U64 d ∧ t.size ≤ m
theorem u64_0 : U64 0 := by unfold U64; omega
theorem i64_kind {k : Nat} (h : k ≤ 11) : I64 (k : Int) := by unfold I64; omega
theorem leaf_nil (m : Nat) : Leaf m eNil := ⟨1, 0, 0, 0, 0, ⟨#[]⟩, rfl, i64_kind (k := 1) (by omega), u64_0, u64_0, u64_0, u64_0, Nat.zero_le _⟩
theorem leaf_set (m : Nat) {w : List Nat} (hw : Words w) : Leaf m (eSet w) :=
  ⟨2, _, _, _, _, ⟨#[]⟩, rfl, i64_kind (k := 2) (by omega), (by have := hw 0; unfold U64; omega), (by have := hw 1; unfold U64; omega), (by have := hw 2; unfold U64; omega), (by have := hw 3; unfold U64; omega), Nat.zero_le _⟩
theorem leaf_any (m : Nat) : Leaf m eAny := ⟨2, wM, wM, wM, wM, ⟨#[]⟩, rfl, i64_kind (k := 2) (by omega), by unfold U64 wM; omega, by unfold U64 wM; omega, by unfold U64 wM; omega, by unfold U64 wM; omega, Nat.zero_le _⟩
theorem sz_arr (t : List UInt8) : (⟨t.toArray⟩ : ByteArray).size = t.length := by simp [ByteArray.size]
theorem leaf_lit {m : Nat} {t : List UInt8} (h : t.length ≤ m) : Leaf m (eLit t) := ⟨3, 0, 0, 0, 0, _, rfl, i64_kind (k := 3) (by omega), u64_0, u64_0, u64_0, u64_0, by rw [sz_arr]; exact h⟩
theorem leaf_ref {m : Nat} {t : List UInt8} (h : t.length ≤ m) : Leaf m (eRef t) := ⟨4, 0, 0, 0, 0, _, rfl, i64_kind (k := 4) (by omega), u64_0, u64_0, u64_0, u64_0, by rw [sz_arr]; exact h⟩
theorem notL_words {w : List Nat} (hw : Words w) (hl : w.length = 4) : Words (notL w) := by
  obtain ⟨a, b, c, d, rfl⟩ := four_of hl
  intro i
  unfold notL
  match i with
  | 0 => simp; omega
  | 1 => simp; omega
  | 2 => simp; omega
  | 3 => simp; omega
  | i + 4 => simp
theorem nameL_le : ∀ l : List UInt8, nameL l ≤ l.length
  | [] => Nat.le_refl _
  | c :: l => by
    rw [nameL]
    have := nameL_le l
    split
    · simp only [List.length_cons]; omega
    · omega
/-- of what is ahead -/
inductive TokB (l : List UInt8) : Tok → Prop where
  | fin : l = [] → TokB l .fin
  | bad : TokB l .bad
  | nd (e : Ex) (n : Nat) : 1 ≤ n → n ≤ l.length → Leaf l.length e → TokB l (.nd e n)
  | sg (c n : Nat) : 1 ≤ n → n ≤ l.length → 0 < c → c < 256 → TokB l (.sg c n)
theorem bt_ne_len {r : List UInt8} {k : Nat} (h : bt r 0 = k) (hk : k ≠ 0) : 0 < r.length := by
  cases r with
  | nil => exact absurd h.symm hk
  | cons => simp
theorem tok_b (l : List UInt8) : TokB l (tokL l) := by
  cases l with
  | nil => exact .fin rfl
  | cons c r =>
    have hc := c.toNat_lt
    rw [tokL]
    split
    · split
      · exact .bad
      · rename_i o n hu
        obtain ⟨h1, h2, h3⟩ := unl_bd _ _ _ _ _ _ hu
        refine .nd _ _ (by omega) (by simp; omega) ?_
        split
        · exact leaf_nil _
        · exact leaf_lit (by simp; omega)
    · split
      · split
        · rename_i hb
          have hr := bt_ne_len hb (by decide)
          split
          · exact .bad
          · rename_i w n hu
            obtain ⟨h1, h2, h3, h4⟩ := unc_bd _ _ _ _ _ rfl Words.zero hu
            rw [List.length_drop] at h2
            exact .nd _ _ (by omega) (by simp; omega) (leaf_set _ (notL_words h4 h3))
        · split
          · exact .bad
          · rename_i w n hu
            obtain ⟨h1, h2, h3, h4⟩ := unc_bd _ _ _ _ _ rfl Words.zero hu
            exact .nd _ _ (by omega) (by simp; omega) (leaf_set _ h4)
      · split
        · exact .nd _ _ (by omega) (by simp) (leaf_any _)
        · split
          · rename_i h
            refine .sg _ _ (by omega) (by simp) ?_ hc
            rcases h with rfl | rfl | rfl | rfl | rfl | rfl | rfl | rfl <;> decide
          · split
            · rename_i h
              have hr := bt_ne_len h.2 (by decide)
              exact .sg _ _ (by omega) (by simp; omega) (by omega) (by omega)
            · split
              · rename_i h
                have h1 : isLD c.toNat = true := by unfold isLD; rw [h]; rfl
                have h2 := nameL_le (c :: r)
                have h3 : 1 ≤ nameL (c :: r) := by rw [nameL, if_pos h1]; omega
                exact .nd _ _ h3 h2 (leaf_ref (by rw [List.length_take]; omega))
              · exact .bad
theorem tok_nd {l : List UInt8} {e : Ex} {n : Nat} (h : tokL l = .nd e n) : 1 ≤ n ∧ n ≤ l.length ∧ Leaf l.length e := by
  have := tok_b l
  rw [h] at this
  cases this with
  | nd _ _ h1 h2 h3 => exact ⟨h1, h2, h3⟩
theorem tok_sgn {l : List UInt8} {c n : Nat} (h : tokL l = .sg c n) : 1 ≤ n ∧ n ≤ l.length ∧ 0 < c ∧ c < 256 := by
  have := tok_b l
  rw [h] at this
  cases this with
  | sg _ _ h1 h2 h3 h4 => exact ⟨h1, h2, h3, h4⟩
theorem skip_le : ∀ (b : Bool) (l : List UInt8), (skipL b l).length ≤ l.length
  | _, [] => by simp [skipL]
  | false, c :: l => by
    have h1 := skip_le false l
    have h2 := skip_le true l
    rw [skipL]
    split
    · simp only [List.length_cons]; omega
    · split
      · simp only [List.length_cons]; omega
      · exact Nat.le_refl _
  | true, c :: l => by
    have h1 := skip_le false l
    have h2 := skip_le true l
    rw [skipL]
    split
    · simp only [List.length_cons]; omega
    · simp only [List.length_cons]; omega
theorem go_lt {l : List UInt8} {n : Nat} (h1 : 1 ≤ n) (h2 : n ≤ l.length) : (goL l n).length < l.length := by
  have := skip_le false (l.drop n)
  unfold goL
  rw [List.length_drop] at this
  omega

/-! the end -/
def rankJ : Pj → Nat
  | .alt => 3
  | .altL _ => 0
  | .seq => 2
  | .seqL _ => 2
  | .pre => 1
  | .post _ => 0
  | .pri => 0
def eatJ : Pj → Nat
  | .altL _ => 0
  | .seqL _ => 0
  | .post _ => 0
  | _ => 1
/-- it comes to an end, and what is left is no more than there was -/
def EndsJ (h : Bool) (j : Pj) (l : List UInt8) : Prop := ∃ R, Rd h j l R ∧ ∀ e l', R = .ok e l' → l'.length + eatJ j ≤ l.length
section
variable {h : Bool} {l l1 : List UInt8} {e : Ex} {R R1 : Rs} {acc : List Ex} {j j1 : Pj}
/-- a reading, and what follows if it comes to something -/
theorem ends_bind (hx : EndsJ h j1 l1) {k : Ex → List UInt8 → Nat → Option Rs} {len m : Nat}
    (hk : ∀ e l2, l2.length + eatJ j1 ≤ l1.length → ∃ f R, k e l2 f = some R ∧ (∀ f', f ≤ f' → k e l2 f' = some R) ∧ ∀ e' l', R = .ok e' l' → l'.length + m ≤ len) :
    ∃ f R, (∀ f', f ≤ f' → bindR (rdJ h f' j1 l1) (fun e l2 => k e l2 f') = some R) ∧ ∀ e' l', R = .ok e' l' → l'.length + m ≤ len := by
  obtain ⟨R1, ⟨f1, hf1⟩, hlen⟩ := hx
  cases R1 with
  | no l2 => exact ⟨f1, .no l2, fun f' hf' => by rw [rdJ_le hf' hf1]; rfl, fun e' l' he => by cases he⟩
  | ok e l2 =>
    obtain ⟨f2, R, _, hk2, hk3⟩ := hk e l2 (hlen e l2 rfl)
    exact ⟨max f1 f2, R, fun f' hf' => by rw [rdJ_le (by omega) hf1]; exact hk2 f' (by omega), hk3⟩
end
theorem thenGo_ends {l : List UInt8} {n : Nat} {k : List UInt8 → Nat → Option Rs} {len m : Nat}
    (hk : ∃ f R, (∀ f', f ≤ f' → k (goL l n) f' = some R) ∧ ∀ e' l', R = .ok e' l' → l'.length + m ≤ len) :
    ∃ f R, (∀ f', f ≤ f' → thenGo l n (fun l1 => k l1 f') = some R) ∧ ∀ e' l', R = .ok e' l' → l'.length + m ≤ len := by
  unfold thenGo
  by_cases hb : (tokL (goL l n)).isBad = true
  · exact ⟨0, .no _, fun f' _ => by rw [if_pos hb], fun e' l' he => by cases he⟩
  · obtain ⟨f, R, h1, h2⟩ := hk
    exact ⟨f, R, fun f' hf => by rw [if_neg hb]; exact h1 f' hf, h2⟩
theorem EndsJ.up {h : Bool} {j : Pj} {l : List UInt8} (H : EndsJ h j l) : ∃ f R, (∀ f', f ≤ f' → rdJ h f' j l = some R) ∧ ∀ e' l', R = .ok e' l' → l'.length + eatJ j ≤ l.length := by
  obtain ⟨R, ⟨f, hf⟩, hl⟩ := H
  exact ⟨f, R, fun f' h' => rdJ_le h' hf, hl⟩
theorem EndsJ.of {h : Bool} {j : Pj} {l : List UInt8} (H : ∃ f R, (∀ f', f ≤ f' → rdJ h (f' + 1) j l = some R) ∧ ∀ e' l', R = .ok e' l' → l'.length + eatJ j ≤ l.length) : EndsJ h j l := by
  obtain ⟨f, R, h1, h2⟩ := H
  exact ⟨R, ⟨f + 1, h1 f (Nat.le_refl _)⟩, h2⟩
/-- a reading of which one knows how it ends, and then -/
theorem up_bind {h : Bool} {j1 : Pj} {l1 : List UInt8} {k : Ex → List UInt8 → Nat → Option Rs} {len m : Nat} (hx : EndsJ h j1 l1)
    (hk : ∀ e l2, l2.length + eatJ j1 ≤ l1.length → ∃ f R, (∀ f', f ≤ f' → k e l2 f' = some R) ∧ ∀ e' l', R = .ok e' l' → l'.length + m ≤ len) :
    ∃ f R, (∀ f', f ≤ f' → bindR (rdJ h f' j1 l1) (fun e l2 => k e l2 f') = some R) ∧ ∀ e' l', R = .ok e' l' → l'.length + m ≤ len :=
  ends_bind hx fun e l2 hl => by
    obtain ⟨f, R, h1, h2⟩ := hk e l2 hl
    exact ⟨f, R, h1 f (Nat.le_refl _), h1, h2⟩
theorem const_ends {R : Rs} {len m : Nat} (h : ∀ e' l', R = .ok e' l' → l'.length + m ≤ len) : ∃ (f : Nat) (R' : Rs), (∀ f', f ≤ f' → some R = some R') ∧ ∀ e' l', R' = .ok e' l' → l'.length + m ≤ len := ⟨0, R, fun _ _ => rfl, h⟩
theorem len_ends {x : Nat → Option Rs} {len len' m m' : Nat} (h : ∃ (f : Nat) (R' : Rs), (∀ f', f ≤ f' → x f' = some R') ∧ ∀ e' l', R' = .ok e' l' → l'.length + m ≤ len) (hm : ∀ k : Nat, k + m ≤ len → k + m' ≤ len') : ∃ (f : Nat) (R' : Rs), (∀ f', f ≤ f' → x f' = some R') ∧ ∀ e' l', R' = .ok e' l' → l'.length + m' ≤ len' := by
  obtain ⟨f, R, h1, h2⟩ := h
  exact ⟨f, R, h1, fun e' l' he => hm _ (h2 e' l' he)⟩
theorem rd_ends_aux (h : Bool) : ∀ (N : Nat) (j : Pj) (l : List UInt8), 4 * l.length + rankJ j < N → EndsJ h j l := by
  intro N
  induction N with
  | zero => intro j l hN; omega
  | succ N ih =>
    intro j l hN
    refine EndsJ.of ?_
    have endp : ∀ (e : Ex) (k : Nat) (l2 : List UInt8), k + l2.length ≤ l.length → ∀ e' l', Rs.ok e l2 = .ok e' l' → l'.length + k ≤ l.length := fun e k l2 hk e' l' he => by
      injection he with e1 e2
      subst e2
      omega
    cases j with
    | alt =>
      simp only [rdJ]
      refine up_bind (ih .seq l (by simp only [rankJ] at hN ⊢; omega)) fun e l2 hl => ?_
      simp only [eatJ] at hl
      exact len_ends (ih (.altL [e]) l2 (by simp only [rankJ] at hN ⊢; omega)).up (fun k hk => by simp only [eatJ] at hk ⊢; omega)
    | altL acc =>
      simp only [rdJ]
      cases ht : tokL l with
      | sg c n =>
        obtain ⟨h1, h2, _⟩ := tok_sgn ht
        have hg := go_lt h1 h2
        simp only
        by_cases hc : c = 47
        · simp only [if_pos hc]
          refine thenGo_ends (k := fun l1 f => bindR (rdJ h f .seq l1) fun e l2 => rdJ h f (.altL (acc ++ [e])) l2) ?_
          refine up_bind (ih .seq _ (by simp only [rankJ] at hN ⊢; omega)) fun e l2 hl => ?_
          simp only [eatJ] at hl
          exact len_ends (ih (.altL (acc ++ [e])) l2 (by simp only [rankJ] at hN ⊢; omega)).up (fun k hk => by simp only [eatJ] at hk ⊢; omega)
        · simp only [if_neg hc]
          exact const_ends (endp _ _ _ (by simp [eatJ]))
      | _ => exact const_ends (endp _ _ _ (by simp [eatJ]))
    | seq =>
      simp only [rdJ]
      refine up_bind (ih .pre l (by simp only [rankJ] at hN ⊢; omega)) fun e l2 hl => ?_
      simp only [eatJ] at hl
      exact len_ends (ih (.seqL [e]) l2 (by simp only [rankJ] at hN ⊢; omega)).up (fun k hk => by simp only [eatJ] at hk ⊢; omega)
    | seqL acc =>
      simp only [rdJ]
      by_cases hb : begL h l = true
      · simp only [if_pos hb]
        refine up_bind (ih .pre l (by simp only [rankJ] at hN ⊢; omega)) fun e l2 hl => ?_
        simp only [eatJ] at hl
        exact len_ends (ih (.seqL (acc ++ [e])) l2 (by simp only [rankJ] at hN ⊢; omega)).up (fun k hk => by simp only [eatJ] at hk ⊢; omega)
      · simp only [if_neg hb]
        exact const_ends (endp _ _ _ (by simp [eatJ]))
    | pre =>
      simp only [rdJ]
      have hpri : ∃ f R, (∀ f', f ≤ f' → bindR (rdJ h f' .pri l) (fun e l1 => rdJ h f' (.post e) l1) = some R) ∧ ∀ e' l', R = .ok e' l' → l'.length + 1 ≤ l.length := by
        refine up_bind (ih .pri l (by simp only [rankJ] at hN ⊢; omega)) fun e l2 hl => ?_
        simp only [eatJ] at hl
        exact len_ends (ih (.post e) l2 (by simp only [rankJ] at hN ⊢; omega)).up (fun k hk => by simp only [eatJ] at hk ⊢; omega)
      cases ht : tokL l with
      | sg c n =>
        obtain ⟨h1, h2, _⟩ := tok_sgn ht
        have hg := go_lt h1 h2
        simp only
        by_cases hc : c = 38 ∨ c = 33
        · simp only [if_pos hc]
          refine thenGo_ends (k := fun l1 f => bindR (rdJ h f .pre l1) fun e l2 => some (.ok (.mk (if c = 38 then 10 else 11) 0 0 0 0 ⟨#[]⟩ [e]) l2)) ?_
          refine up_bind (ih .pre _ (by simp only [rankJ] at hN ⊢; omega)) fun e l2 hl => ?_
          simp only [eatJ] at hl
          exact const_ends (endp _ 1 _ (by omega))
        · simp only [if_neg hc]
          exact hpri
      | _ => exact hpri
    | post e =>
      simp only [rdJ]
      cases ht : tokL l with
      | sg c n =>
        obtain ⟨h1, h2, _⟩ := tok_sgn ht
        have hg := go_lt h1 h2
        simp only
        by_cases hc : c = 63 ∨ c = 42 ∨ c = 43
        · simp only [if_pos hc]
          refine thenGo_ends (k := fun l1 f => rdJ h f (.post (.mk (postK c) 0 0 0 0 ⟨#[]⟩ [e])) l1) ?_
          exact len_ends (ih (.post _) (goL l n) (by simp only [rankJ] at hN ⊢; omega)).up (fun k hk => by simp only [eatJ] at hk ⊢; omega)
        · simp only [if_neg hc]
          exact const_ends (endp _ _ _ (by simp [eatJ]))
      | _ => exact const_ends (endp _ _ _ (by simp [eatJ]))
    | pri =>
      simp only [rdJ]
      have hno : ∀ l2, ∃ (f : Nat) (R' : Rs), (∀ f', f ≤ f' → some (Rs.no l2) = some R') ∧ ∀ e' l', R' = .ok e' l' → l'.length + 1 ≤ l.length := fun l2 => const_ends (fun e' l' he => by cases he)
      by_cases hb : begL h l = true
      · simp only [if_pos hb]
        cases ht : tokL l with
        | fin => exact hno _
        | bad => exact hno _
        | nd e n =>
          obtain ⟨h1, h2, _⟩ := tok_nd ht
          have hg := go_lt h1 h2
          simp only
          exact thenGo_ends (k := fun l1 f => some (.ok e l1)) (const_ends (endp _ 1 _ (by omega)))
        | sg c n =>
          obtain ⟨h1, h2, _⟩ := tok_sgn ht
          have hg := go_lt h1 h2
          simp only
          by_cases hc : c = 40
          · simp only [if_pos hc]
            have halt : ∀ l1 : List UInt8, l1.length < l.length → ∃ f R, (∀ f', f ≤ f' → bindR (rdJ h f' .alt l1) (fun e l2 => match tokL l2 with
                | .sg c2 n2 => if c2 = 41 then thenGo l2 n2 fun l3 => some (.ok e l3) else some (.no l2)
                | _ => some (.no l2)) = some R) ∧ ∀ e' l', R = .ok e' l' → l'.length + 1 ≤ l.length := fun l1 hl1 => by
              refine up_bind (ih .alt l1 (by simp only [rankJ] at hN ⊢; omega)) fun e l2 hl => ?_
              simp only [eatJ] at hl
              cases ht2 : tokL l2 with
              | sg c2 n2 =>
                obtain ⟨q1, q2, _⟩ := tok_sgn ht2
                have hg2 := go_lt q1 q2
                simp only
                by_cases hc2 : c2 = 41
                · simp only [if_pos hc2]
                  exact thenGo_ends (k := fun l3 f => some (.ok e l3)) (const_ends (endp _ 1 _ (by omega)))
                · simp only [if_neg hc2]
                  exact hno _
              | _ => exact hno _
            refine thenGo_ends (k := fun l1 f => match tokL l1 with
              | .sg c1 n1 => if c1 = 41 then thenGo l1 n1 fun l2 => some (.ok eNil l2) else bindR (rdJ h f .alt l1) fun e l2 => match tokL l2 with
                | .sg c2 n2 => if c2 = 41 then thenGo l2 n2 fun l3 => some (.ok e l3) else some (.no l2)
                | _ => some (.no l2)
              | _ => bindR (rdJ h f .alt l1) fun e l2 => match tokL l2 with
                | .sg c2 n2 => if c2 = 41 then thenGo l2 n2 fun l3 => some (.ok e l3) else some (.no l2)
                | _ => some (.no l2)) ?_
            cases ht1 : tokL (goL l n) with
            | sg c1 n1 =>
              obtain ⟨q1, q2, _⟩ := tok_sgn ht1
              have hg1 := go_lt q1 q2
              simp only
              by_cases hc1 : c1 = 41
              · simp only [if_pos hc1]
                exact thenGo_ends (k := fun l3 f => some (.ok eNil l3)) (const_ends (endp _ 1 _ (by omega)))
              · simp only [if_neg hc1]
                exact halt _ hg
            | _ => exact halt _ hg
          · simp only [if_neg hc]
            exact hno _
      · simp only [if_neg hb]
        exact hno _
theorem rd_ends (h : Bool) (j : Pj) (l : List UInt8) : EndsJ h j l := rd_ends_aux h _ j l (Nat.lt_succ_self _)

/-! what is read is formed well -/
def WfJ : Pj → Prop
  | .altL acc => ∀ e ∈ acc, WfE e
  | .seqL acc => ∀ e ∈ acc, WfE e
  | .post e => WfE e
  | _ => True
theorem Leaf.wf {m : Nat} {e : Ex} (h : Leaf m e) : WfE e := by
  obtain ⟨k, a, b, c, d, t, rfl, h1, h2, h3, h4, h5, _⟩ := h
  exact .mk _ _ _ _ _ _ _ h1 h2 h3 h4 h5 fun e he => by cases he
theorem wf_node {k : Int} (hk : I64 k) {ks : List Ex} (h : ∀ e ∈ ks, WfE e) : WfE (.mk k 0 0 0 0 ⟨#[]⟩ ks) := .mk _ _ _ _ _ _ _ hk u64_0 u64_0 u64_0 u64_0 h
theorem wf_oneOr {k : Int} (hk : I64 k) {ks : List Ex} (h : ∀ e ∈ ks, WfE e) : WfE (oneOr k ks) := by
  unfold oneOr
  split
  · exact h _ (.head _)
  · exact wf_node hk h
theorem bindR_inv {x : Option Rs} {k : Ex → List UInt8 → Option Rs} {e : Ex} {l : List UInt8} (h : bindR x k = some (.ok e l)) : ∃ e1 l1, x = some (.ok e1 l1) ∧ k e1 l1 = some (.ok e l) := by
  cases x with
  | none => cases h
  | some y =>
    cases y with
    | no l => cases h
    | ok e1 l1 => exact ⟨e1, l1, rfl, h⟩
theorem thenGo_inv {l : List UInt8} {n : Nat} {k : List UInt8 → Option Rs} {e : Ex} {l' : List UInt8} (h : thenGo l n k = some (.ok e l')) : (tokL (goL l n)).isBad = false ∧ k (goL l n) = some (.ok e l') := by
  unfold thenGo at h
  split at h
  · cases h
  · rename_i hb
    exact ⟨by simpa using hb, h⟩
theorem i64_small {k : Int} (h : 0 ≤ k ∧ k ≤ 11) : I64 k := by unfold I64; omega
theorem mem_snoc {acc : List Ex} {P : Ex → Prop} {e : Ex} (h : ∀ x ∈ acc, P x) (he : P e) : ∀ x ∈ acc ++ [e], P x := fun x hx => by
  rcases List.mem_append.1 hx with hx | hx
  · exact h x hx
  · rw [List.mem_singleton.1 hx]; exact he
theorem mem_one {P : Ex → Prop} {e : Ex} (he : P e) : ∀ x ∈ [e], P x := fun x hx => by rw [List.mem_singleton.1 hx]; exact he
theorem rd_wf (h : Bool) : ∀ (f : Nat) (j : Pj) (l : List UInt8) (e : Ex) (l' : List UInt8), WfJ j → rdJ h f j l = some (.ok e l') → WfE e := by
  intro f
  induction f with
  | zero => intro j l e l' _ hr; cases hr
  | succ f ih =>
    intro j l e l' hj hr
    cases j with
    | alt =>
      rw [rdJ] at hr
      obtain ⟨e1, l1, h1, h2⟩ := bindR_inv hr
      exact ih (.altL [e1]) l1 e l' (mem_one (ih .seq _ _ _ trivial h1)) h2
    | altL acc =>
      rw [rdJ] at hr
      have hend : some (Rs.ok (oneOr 6 acc) l) = some (.ok e l') → WfE e := fun h => by injection h with h; injection h with h1 _; rw [← h1]; exact wf_oneOr (i64_small (by omega)) hj
      cases ht : tokL l with
      | sg c n =>
        rw [ht] at hr
        simp only at hr
        split at hr
        · obtain ⟨_, h0⟩ := thenGo_inv hr
          obtain ⟨e1, l1, h1, h2⟩ := bindR_inv h0
          exact ih (.altL (acc ++ [e1])) l1 e l' (mem_snoc hj (ih .seq _ _ _ trivial h1)) h2
        · exact hend hr
      | _ => rw [ht] at hr; exact hend hr
    | seq =>
      rw [rdJ] at hr
      obtain ⟨e1, l1, h1, h2⟩ := bindR_inv hr
      exact ih (.seqL [e1]) l1 e l' (mem_one (ih .pre _ _ _ trivial h1)) h2
    | seqL acc =>
      rw [rdJ] at hr
      split at hr
      · obtain ⟨e1, l1, h1, h2⟩ := bindR_inv hr
        exact ih (.seqL (acc ++ [e1])) l1 e l' (mem_snoc hj (ih .pre _ _ _ trivial h1)) h2
      · injection hr with h; injection h with h1 _; rw [← h1]; exact wf_oneOr (i64_small (by omega)) hj
    | pre =>
      rw [rdJ] at hr
      have hpri : bindR (rdJ h f .pri l) (fun e l1 => rdJ h f (.post e) l1) = some (.ok e l') → WfE e := fun hr => by
        obtain ⟨e1, l1, h1, h2⟩ := bindR_inv hr
        exact ih (.post e1) l1 e l' (ih .pri _ _ _ trivial h1) h2
      cases ht : tokL l with
      | sg c n =>
        rw [ht] at hr
        simp only at hr
        split at hr
        · obtain ⟨_, h0⟩ := thenGo_inv hr
          obtain ⟨e1, l1, h1, h2⟩ := bindR_inv h0
          injection h2 with h2
          injection h2 with h2 _
          rw [← h2]
          exact wf_node (by split <;> exact i64_small (by omega)) (mem_one (ih .pre _ _ _ trivial h1))
        · exact hpri hr
      | _ => rw [ht] at hr; exact hpri hr
    | post e0 =>
      rw [rdJ] at hr
      have hend : some (Rs.ok e0 l) = some (.ok e l') → WfE e := fun h => by injection h with h; injection h with h1 _; rw [← h1]; exact hj
      cases ht : tokL l with
      | sg c n =>
        rw [ht] at hr
        simp only at hr
        split at hr
        · obtain ⟨_, h0⟩ := thenGo_inv hr
          refine ih (.post _) _ e l' (wf_node ?_ (mem_one hj)) h0
          unfold postK
          split
          · exact i64_small (by omega)
          · split <;> exact i64_small (by omega)
        · exact hend hr
      | _ => rw [ht] at hr; exact hend hr
    | pri =>
      rw [rdJ] at hr
      have hbr : ∀ l1, bindR (rdJ h f .alt l1) (fun e l2 => match tokL l2 with
          | .sg c2 n2 => if c2 = 41 then thenGo l2 n2 fun l3 => some (.ok e l3) else some (.no l2)
          | _ => some (.no l2)) = some (.ok e l') → WfE e := fun l1 hr => by
        obtain ⟨e1, l2, h1, h2⟩ := bindR_inv hr
        have hw := ih .alt _ _ _ trivial h1
        cases ht2 : tokL l2 with
        | sg c2 n2 =>
          rw [ht2] at h2
          simp only at h2
          split at h2
          · obtain ⟨_, h3⟩ := thenGo_inv h2
            injection h3 with h3
            injection h3 with h3 _
            rw [← h3]; exact hw
          · injection h2 with h2; cases h2
        | _ => rw [ht2] at h2; injection h2 with h2; cases h2
      split at hr
      · cases ht : tokL l with
        | nd e0 n =>
          rw [ht] at hr
          obtain ⟨_, h0⟩ := thenGo_inv hr
          injection h0 with h0
          injection h0 with h0 _
          rw [← h0]
          exact (tok_nd ht).2.2.wf
        | sg c n =>
          rw [ht] at hr
          simp only at hr
          split at hr
          · obtain ⟨_, h0⟩ := thenGo_inv hr
            cases ht1 : tokL (goL l n) with
            | sg c1 n1 =>
              rw [ht1] at h0
              simp only at h0
              split at h0
              · obtain ⟨_, h1⟩ := thenGo_inv h0
                injection h1 with h1
                injection h1 with h1 _
                rw [← h1]
                exact (leaf_nil 0).wf
              · exact hbr _ h0
            | _ => rw [ht1] at h0; exact hbr _ h0
          · injection hr with hr; cases hr
        | _ => rw [ht] at hr; injection hr with hr; cases hr
      · injection hr with hr; cases hr
end Go.Proofs.YtndhbdbfjkmloaaDoor
namespace Go.Proofs.YtndhbdbfjkmloaaDoor
open Go.RowKit

/-- a new line and a remark -/
def sufR : List UInt8 := [10, 32, 35, 32, 39]
def extL (l : List UInt8) : List UInt8 := if l = [] then [] else l ++ sufR
def Rs.ext : Rs → Rs
  | .ok e l => .ok e (extL l)
  | .no l => .no (extL l)
theorem names_no (l : List UInt8) : namesL false l = false := by unfold namesL; split <;> rfl
/-! a whole text -/
def Tok.isFin : Tok → Bool | .fin => true | _ => false
/-- what a whole text is read as -/
def Whole (s : List UInt8) (x : Rs) : Prop :=
  ((tokL (skipL false s)).isBad = true ∧ x = .no (skipL false s)) ∨
  ((tokL (skipL false s)).isBad = false ∧ ∃ R, Rd false .alt (skipL false s) R ∧ ((∃ l', R = .no l' ∧ x = .no l') ∨ ∃ e l', R = .ok e l' ∧ (((tokL l').isFin = true ∧ x = .ok e l') ∨ ((tokL l').isFin = false ∧ x = .no l'))))
theorem Whole.uniq {s : List UInt8} {x y : Rs} (h : Whole s x) (h' : Whole s y) : x = y := by
  rcases h with ⟨h1, rfl⟩ | ⟨h1, R, hR, h2⟩
  · rcases h' with ⟨_, rfl⟩ | ⟨h3, _⟩
    · rfl
    · rw [h1] at h3; cases h3
  · rcases h' with ⟨h3, _⟩ | ⟨_, R', hR', h4⟩
    · rw [h1] at h3; cases h3
    · obtain rfl := hR.uniq hR'
      rcases h2 with ⟨l, rfl, rfl⟩ | ⟨e, l, rfl, h2⟩
      · rcases h4 with ⟨l', h5, rfl⟩ | ⟨e', l', h5, _⟩
        · injection h5 with h5; rw [h5]
        · cases h5
      · rcases h4 with ⟨l', h5, _⟩ | ⟨e', l', h5, h4⟩
        · cases h5
        · injection h5 with h5 h6
          subst h5 h6
          rcases h2 with ⟨h7, rfl⟩ | ⟨h7, rfl⟩ <;> rcases h4 with ⟨h8, rfl⟩ | ⟨h8, rfl⟩
          · rfl
          · rw [h7] at h8; cases h8
          · rw [h7] at h8; cases h8
          · rfl
theorem fin_nil {l : List UInt8} (h : (tokL l).isFin = true) : l = [] := by
  have := tok_b l
  cases ht : tokL l with
  | fin => rw [ht] at this; cases this with | fin h => exact h
  | bad => rw [ht] at h; cases h
  | nd e n => rw [ht] at h; cases h
  | sg c n => rw [ht] at h; cases h
theorem whole_wf {s : List UInt8} {e : Ex} {l : List UInt8} (h : Whole s (.ok e l)) : WfE e ∧ l = [] := by
  rcases h with ⟨_, h⟩ | ⟨_, R, ⟨f, hR⟩, h⟩
  · cases h
  · rcases h with ⟨l', _, h⟩ | ⟨e', l', rfl, ⟨h1, h2⟩ | ⟨_, h2⟩⟩
    · cases h
    · injection h2 with h2 h3
      subst h2 h3
      exact ⟨rd_wf false f .alt _ _ _ trivial hR, fin_nil h1⟩
    · cases h2
end Go.Proofs.YtndhbdbfjkmloaaDoor
namespace Go.Proofs.YtndhbdbfjkmloaaDoor
open Go.RowKit

inductive Tk where
  | nd (e : Ex)
  | sg (c : Nat)
/-- the signs from here to there -/
inductive Str : List UInt8 → List Tk → List UInt8 → Prop where
  | nil (l : List UInt8) : Str l [] l
  | nd {l l' : List UInt8} {e : Ex} {n : Nat} {ts : List Tk} : tokL l = .nd e n → Str (goL l n) ts l' → Str l (.nd e :: ts) l'
  | sg {l l' : List UInt8} {c n : Nat} {ts : List Tk} : tokL l = .sg c n → Str (goL l n) ts l' → Str l (.sg c :: ts) l'
theorem Str.app {l l1 l2 : List UInt8} {a b : List Tk} (h : Str l a l1) (h' : Str l1 b l2) : Str l (a ++ b) l2 := by
  induction h with
  | nil => exact h'
  | nd h1 _ ih => exact .nd h1 (ih h')
  | sg h1 _ ih => exact .sg h1 (ih h')
theorem Str.end_uniq {l : List UInt8} {a : List Tk} {l' : List UInt8} (h : Str l a l') : l' = [] → ∀ {b : List Tk}, Str l b [] → a = b := by
  induction h with
  | nil l =>
    rintro rfl b hb
    cases hb with
    | nil => rfl
    | nd h _ => cases h
    | sg h _ => cases h
  | nd h1 _ ih =>
    rintro rfl b hb
    cases hb with
    | nil => cases h1
    | nd h2 h3 => rw [h1] at h2; injection h2 with e1 e2; subst e1 e2; rw [ih rfl h3]
    | sg h2 h3 => rw [h1] at h2; cases h2
  | sg h1 _ ih =>
    rintro rfl b hb
    cases hb with
    | nil => cases h1
    | nd h2 h3 => rw [h1] at h2; cases h2
    | sg h2 h3 => rw [h1] at h2; injection h2 with e1 e2; subst e1 e2; rw [ih rfl h3]

def Tk.cost : Tk → Nat
  | .nd e => if e.kindX = 1 then 1 else 0
  | .sg c => if c = 40 then 1 else 0
def Tk.leaf : Tk → List Ex
  | .nd e => if e.kindX = 1 then [] else [e]
  | .sg _ => []
def cntT : List Tk → Nat
  | [] => 0
  | t :: ts => t.cost + cntT ts
def lvsT : List Tk → List Ex
  | [] => []
  | t :: ts => t.leaf ++ lvsT ts
theorem cntT_app : ∀ a b : List Tk, cntT (a ++ b) = cntT a + cntT b
  | [], b => by simp [cntT]
  | t :: a, b => by simp only [List.cons_append, cntT, cntT_app a b]; omega
theorem lvsT_app : ∀ a b : List Tk, lvsT (a ++ b) = lvsT a ++ lvsT b
  | [], b => by simp [lvsT]
  | t :: a, b => by simp only [List.cons_append, lvsT, lvsT_app a b, List.append_assoc]
def leastK (k : Int) : Nat := if k = 10 ∨ k = 11 then 3 else if k = 7 ∨ k = 8 ∨ k = 9 then 4 else if k = 6 then 2 else 3
def one0 (e : Ex) (n : Nat) : Nat := if lvl e.kindX < n then 1 else 0
theorem one0_mono (e : Ex) {m n : Nat} (h : m ≤ n) : one0 e m ≤ one0 e n := by
  unfold one0
  split
  · rw [if_pos (by omega)]; exact Nat.le_refl _
  · exact Nat.zero_le _
theorem one0_le (e : Ex) (n : Nat) : one0 e n ≤ 1 := by unfold one0; split <;> omega
mutual
/-- brackets of an expression's text -/
def brE : Ex → Nat
  | .mk k _ _ _ _ _ ks => (if k = 1 then 1 else 0) + brL (leastK k) ks
def brL (n : Nat) : List Ex → Nat
  | [] => 0
  | e :: es => one0 e n + brE e + brL n es
end
mutual
/-- its leaves, in order -/
def lvE : Ex → List Ex
  | .mk k a b c d t ks => if k = 1 then [] else if k = 2 ∨ k = 3 ∨ k = 4 then [.mk k a b c d t ks] else lvL ks
def lvL : List Ex → List Ex
  | [] => []
  | e :: es => lvE e ++ lvL es
end
theorem brL_app (n : Nat) : ∀ a b : List Ex, brL n (a ++ b) = brL n a + brL n b
  | [], b => by simp [brL]
  | t :: a, b => by simp only [List.cons_append, brL, brL_app n a b]; omega
theorem lvL_app : ∀ a b : List Ex, lvL (a ++ b) = lvL a ++ lvL b
  | [], b => by simp [lvL]
  | t :: a, b => by simp only [List.cons_append, lvL, lvL_app a b, List.append_assoc]
theorem brE_mk (k a b c d : Int) (t : ByteArray) (ks : List Ex) : brE (.mk k a b c d t ks) = (if k = 1 then 1 else 0) + brL (leastK k) ks := by rw [brE]
theorem lvE_mk (k a b c d : Int) (t : ByteArray) (ks : List Ex) : lvE (.mk k a b c d t ks) = if k = 1 then [] else if k = 2 ∨ k = 3 ∨ k = 4 then [.mk k a b c d t ks] else lvL ks := by rw [lvE]
theorem brL_one (n : Nat) (e : Ex) : brL n [e] = one0 e n + brE e := by simp [brL]
theorem lvL_one (e : Ex) : lvL [e] = lvE e := by simp [lvL]

/-- a sign that is an expression -/
structure LeafT (e : Ex) : Prop where
  br : brE e = (Tk.nd e).cost
  lv : lvE e = (Tk.nd e).leaf
  lvl : lvl e.kindX = 5
theorem leafT_of {k a b c d : Int} {t : ByteArray} (hk : k = 1 ∨ k = 2 ∨ k = 3 ∨ k = 4) : LeafT (.mk k a b c d t []) := by
  constructor
  · rw [brE_mk]; rfl
  · rw [lvE_mk]
    unfold Tk.leaf
    show _ = if k = 1 then [] else _
    split
    · rfl
    · rw [if_pos (by omega)]
  · show lvl k = 5
    rcases hk with rfl | rfl | rfl | rfl <;> rfl
theorem tok_leaf {l : List UInt8} {e : Ex} {n : Nat} (h : tokL l = .nd e n) : LeafT e := by
  cases l with
  | nil => cases h
  | cons c r =>
    rw [tokL] at h
    split at h
    · split at h
      · cases h
      · injection h with h _
        rw [← h]
        split
        · exact leafT_of (.inl rfl)
        · exact leafT_of (.inr (.inr (.inl rfl)))
    · split at h
      · split at h
        · split at h
          · cases h
          · injection h with h _
            rw [← h]; exact leafT_of (.inr (.inl rfl))
        · split at h
          · cases h
          · injection h with h _
            rw [← h]; exact leafT_of (.inr (.inl rfl))
      · split at h
        · injection h with h _
          rw [← h]; exact leafT_of (.inr (.inl rfl))
        · split at h
          · cases h
          · split at h
            · cases h
            · split at h
              · injection h with h _
                rw [← h]; exact leafT_of (.inr (.inr (.inr rfl)))
              · cases h
def thrJ : Pj → Nat
  | .alt | .altL _ => 0
  | .seq | .seqL _ => 2
  | .pre => 3
  | .post _ => 4
  | .pri => 5
def accB : Pj → Nat
  | .altL acc => brL 2 acc
  | .seqL acc => brL 3 acc
  | .post e => brE e + one0 e 4
  | _ => 0
def accL : Pj → List Ex
  | .altL acc => lvL acc
  | .seqL acc => lvL acc
  | .post e => lvE e
  | _ => []
/-- what reading took -/
def Took (j : Pj) (l : List UInt8) (e : Ex) (l' : List UInt8) : Prop := ∃ ts, Str l ts l' ∧ brE e + one0 e (thrJ j) ≤ accB j + cntT ts ∧ lvE e = accL j ++ lvsT ts
theorem oneOr_br (k : Int) (hk : k = 5 ∨ k = 6) (acc : List Ex) : brE (oneOr k acc) + one0 (oneOr k acc) (leastK k - 1) ≤ brL (leastK k) acc ∨ (k = 6 ∧ brE (oneOr k acc) ≤ brL (leastK k) acc) := by
  unfold oneOr
  split
  · left
    rw [brL_one]
    have := one0_mono (‹Ex›) (Nat.sub_le (leastK k) 1)
    omega
  · rcases hk with rfl | rfl
    · left
      rw [brE_mk]
      show (if (5 : Int) = 1 then 1 else 0) + brL (leastK 5) acc + (if lvl 5 < leastK 5 - 1 then 1 else 0) ≤ _
      rw [if_neg (by decide), if_neg (by decide)]; omega
    · right
      rw [brE_mk, if_neg (by decide)]
      exact ⟨rfl, by omega⟩
theorem oneOr_lv (k : Int) (hk : k = 5 ∨ k = 6) (acc : List Ex) : lvE (oneOr k acc) = lvL acc := by
  unfold oneOr
  split
  · rw [lvL_one]
  · rw [lvE_mk, if_neg (by omega), if_neg (by omega)]
theorem one0_zero (e : Ex) : one0 e 0 = 0 := if_neg (by omega)
theorem took_end (j : Pj) (l : List UInt8) (e : Ex) (h1 : brE e + one0 e (thrJ j) ≤ accB j) (h2 : lvE e = accL j) : Took j l e l := ⟨[], .nil _, by simpa [cntT] using h1, by simpa [lvsT] using h2⟩
theorem rd_took : ∀ (f : Nat) (j : Pj) (l : List UInt8) (e : Ex) (l' : List UInt8), rdJ false f j l = some (.ok e l') → Took j l e l' := by
  intro f
  induction f with
  | zero => intro j l e l' hr; cases hr
  | succ f ih =>
    intro j l e l' hr
    cases j with
    | alt =>
      rw [rdJ] at hr
      obtain ⟨e1, l1, h1, h2⟩ := bindR_inv hr
      obtain ⟨t1, a1, b1, c1⟩ := ih _ _ _ _ h1
      obtain ⟨t2, a2, b2, c2⟩ := ih _ _ _ _ h2
      refine ⟨t1 ++ t2, a1.app a2, ?_, ?_⟩
      · rw [cntT_app]
        simp only [accB, thrJ, brL_one] at b1 b2 ⊢
        omega
      · rw [lvsT_app]
        simp only [accL, lvL_one, List.nil_append] at c1 c2 ⊢
        rw [c2, c1]
    | altL acc =>
      rw [rdJ] at hr
      have hend : some (Rs.ok (oneOr 6 acc) l) = some (.ok e l') → Took (.altL acc) l e l' := fun h => by
        injection h with h; injection h with h1 h2
        rw [← h1, ← h2]
        refine took_end _ _ _ ?_ (oneOr_lv 6 (.inr rfl) acc)
        show _ + one0 _ 0 ≤ brL 2 acc
        rw [one0_zero]
        rcases oneOr_br 6 (.inr rfl) acc with h | ⟨_, h⟩
        · exact Nat.le_trans (Nat.le_add_right _ _) h
        · exact h
      cases ht : tokL l with
      | sg c n =>
        rw [ht] at hr
        simp only at hr
        split at hr
        · rename_i hc
          obtain ⟨_, h0⟩ := thenGo_inv hr
          obtain ⟨e1, l1, h1, h2⟩ := bindR_inv h0
          obtain ⟨t1, a1, b1, c1⟩ := ih _ _ _ _ h1
          obtain ⟨t2, a2, b2, c2⟩ := ih _ _ _ _ h2
          refine ⟨.sg c :: (t1 ++ t2), .sg ht (a1.app a2), ?_, ?_⟩
          · simp only [accB, thrJ, cntT, cntT_app, brL_app, brL_one] at b1 b2 ⊢
            omega
          · simp only [accL, lvL_app, lvL_one, lvsT, lvsT_app, Tk.leaf, List.nil_append, List.append_assoc] at c1 c2 ⊢
            rw [c2, c1]
        · exact hend hr
      | _ => rw [ht] at hr; exact hend hr
    | seq =>
      rw [rdJ] at hr
      obtain ⟨e1, l1, h1, h2⟩ := bindR_inv hr
      obtain ⟨t1, a1, b1, c1⟩ := ih _ _ _ _ h1
      obtain ⟨t2, a2, b2, c2⟩ := ih _ _ _ _ h2
      refine ⟨t1 ++ t2, a1.app a2, ?_, ?_⟩
      · rw [cntT_app]
        simp only [accB, thrJ, brL_one] at b1 b2 ⊢
        omega
      · rw [lvsT_app]
        simp only [accL, lvL_one, List.nil_append] at c1 c2 ⊢
        rw [c2, c1]
    | seqL acc =>
      rw [rdJ] at hr
      split at hr
      · obtain ⟨e1, l1, h1, h2⟩ := bindR_inv hr
        obtain ⟨t1, a1, b1, c1⟩ := ih _ _ _ _ h1
        obtain ⟨t2, a2, b2, c2⟩ := ih _ _ _ _ h2
        refine ⟨t1 ++ t2, a1.app a2, ?_, ?_⟩
        · simp only [accB, thrJ, cntT_app, brL_app, brL_one] at b1 b2 ⊢
          omega
        · simp only [accL, lvL_app, lvL_one, lvsT_app, List.nil_append, List.append_assoc] at c1 c2 ⊢
          rw [c2, c1]
      · injection hr with h; injection h with h1 h2
        rw [← h1, ← h2]
        refine took_end _ _ _ ?_ (oneOr_lv 5 (.inl rfl) acc)
        rcases oneOr_br 5 (.inl rfl) acc with h | ⟨h, _⟩
        · exact h
        · exact absurd h (by decide)
    | pre =>
      rw [rdJ] at hr
      have hpri : bindR (rdJ false f .pri l) (fun e l1 => rdJ false f (.post e) l1) = some (.ok e l') → Took .pre l e l' := fun hr => by
        obtain ⟨e1, l1, h1, h2⟩ := bindR_inv hr
        obtain ⟨t1, a1, b1, c1⟩ := ih _ _ _ _ h1
        obtain ⟨t2, a2, b2, c2⟩ := ih _ _ _ _ h2
        have m1 := one0_mono e1 (show 4 ≤ 5 by omega)
        have m2 := one0_mono e (show 3 ≤ 4 by omega)
        refine ⟨t1 ++ t2, a1.app a2, ?_, ?_⟩
        · simp only [accB, thrJ, cntT_app] at b1 b2 ⊢
          omega
        · simp only [accL, lvsT_app, List.nil_append] at c1 c2 ⊢
          rw [c2, c1]
      cases ht : tokL l with
      | sg c n =>
        rw [ht] at hr
        simp only at hr
        split at hr
        · obtain ⟨_, h0⟩ := thenGo_inv hr
          obtain ⟨e1, l1, h1, h2⟩ := bindR_inv h0
          obtain ⟨t1, a1, b1, c1⟩ := ih _ _ _ _ h1
          injection h2 with h2
          injection h2 with h2 h3
          rw [← h2, ← h3]
          have hk : ∃ k : Int, (if c = 38 then (10 : Int) else 11) = k ∧ (k = 10 ∨ k = 11) := ⟨_, rfl, by split <;> simp⟩
          obtain ⟨k, hk, hk2⟩ := hk
          rw [hk]
          refine ⟨.sg c :: t1, .sg ht a1, ?_, ?_⟩
          · have e1' : leastK k = 3 := if_pos hk2
            have e2' : one0 (.mk k 0 0 0 0 ⟨#[]⟩ [e1]) (thrJ .pre) = 0 := by
              show (if lvl k < 3 then 1 else 0) = 0
              rcases hk2 with rfl | rfl <;> decide
            rw [e2', brE_mk, e1', if_neg (by omega), brL_one]
            simp only [accB, thrJ, cntT] at b1 ⊢
            omega
          · rw [lvE_mk, if_neg (by omega), if_neg (by omega), lvL_one]
            simp only [accL, lvsT, Tk.leaf, List.nil_append] at c1 ⊢
            exact c1
        · exact hpri hr
      | _ => rw [ht] at hr; exact hpri hr
    | post e0 =>
      rw [rdJ] at hr
      have hend : some (Rs.ok e0 l) = some (.ok e l') → Took (.post e0) l e l' := fun h => by
        injection h with h; injection h with h1 h2
        rw [← h1, ← h2]
        exact took_end _ _ _ (Nat.le_refl _) rfl
      cases ht : tokL l with
      | sg c n =>
        rw [ht] at hr
        simp only at hr
        split at hr
        · obtain ⟨_, h0⟩ := thenGo_inv hr
          obtain ⟨t1, a1, b1, c1⟩ := ih _ _ _ _ h0
          have hk2 : postK c = 7 ∨ postK c = 8 ∨ postK c = 9 := by
            unfold postK
            split
            · exact .inr (.inr rfl)
            · split
              · exact .inl rfl
              · exact .inr (.inl rfl)
          generalize postK c = k at hk2 b1 c1
          refine ⟨.sg c :: t1, .sg ht a1, ?_, ?_⟩
          · have e1' : leastK k = 4 := by
              unfold leastK
              rw [if_neg (by omega), if_pos (by omega)]
            have e2' : one0 (.mk k 0 0 0 0 ⟨#[]⟩ [e0]) 4 = 0 := by
              show (if lvl k < 4 then 1 else 0) = 0
              rcases hk2 with rfl | rfl | rfl <;> decide
            simp only [accB, thrJ, cntT] at b1 ⊢
            rw [e2', brE_mk, e1', if_neg (by omega), brL_one] at b1
            omega
          · simp only [accL, lvsT, Tk.leaf, List.nil_append] at c1 ⊢
            rw [lvE_mk, if_neg (by omega), if_neg (by omega), lvL_one] at c1
            exact c1
        · exact hend hr
      | _ => rw [ht] at hr; exact hend hr
    | pri =>
      rw [rdJ] at hr
      have hbr : ∀ l1 n, tokL l = .sg 40 n → l1 = goL l n → bindR (rdJ false f .alt l1) (fun e l2 => match tokL l2 with
          | .sg c2 n2 => if c2 = 41 then thenGo l2 n2 fun l3 => some (.ok e l3) else some (.no l2)
          | _ => some (.no l2)) = some (.ok e l') → Took .pri l e l' := fun l1 n ht hl1 hr => by
        obtain ⟨e1, l2, h1, h2⟩ := bindR_inv hr
        obtain ⟨t1, a1, b1, c1⟩ := ih _ _ _ _ h1
        cases ht2 : tokL l2 with
        | sg c2 n2 =>
          rw [ht2] at h2
          simp only at h2
          split at h2
          · obtain ⟨_, h3⟩ := thenGo_inv h2
            injection h3 with h3
            injection h3 with h3 h4
            rw [← h3, ← h4]
            refine ⟨.sg 40 :: (t1 ++ [.sg c2]), .sg ht (by rw [← hl1]; exact a1.app (.sg ht2 (.nil _))), ?_, ?_⟩
            · have := one0_le e1 5
              simp only [accB, thrJ, cntT, cntT_app, Tk.cost] at b1 ⊢
              rw [if_pos trivial]
              omega
            · simp only [accL, lvsT, lvsT_app, Tk.leaf, List.nil_append, List.append_nil] at c1 ⊢
              exact c1
          · injection h2 with h2; cases h2
        | _ => rw [ht2] at h2; injection h2 with h2; cases h2
      split at hr
      · cases ht : tokL l with
        | nd e0 n =>
          rw [ht] at hr
          obtain ⟨_, h0⟩ := thenGo_inv hr
          injection h0 with h0
          injection h0 with h0 h1
          rw [← h0, ← h1]
          have L := tok_leaf ht
          refine ⟨[.nd e0], .nd ht (.nil _), ?_, ?_⟩
          · rw [L.br]
            have : one0 e0 5 = 0 := if_neg (by rw [L.lvl]; omega)
            simp only [accB, thrJ, cntT]
            omega
          · rw [L.lv]; simp [accL, lvsT]
        | sg c n =>
          rw [ht] at hr
          simp only at hr
          split at hr
          · rename_i hc
            subst hc
            obtain ⟨_, h0⟩ := thenGo_inv hr
            cases ht1 : tokL (goL l n) with
            | sg c1 n1 =>
              rw [ht1] at h0
              simp only at h0
              split at h0
              · obtain ⟨_, h1⟩ := thenGo_inv h0
                injection h1 with h1
                injection h1 with h1 h2
                rw [← h1, ← h2]
                refine ⟨[.sg 40, .sg c1], .sg ht (.sg ht1 (.nil _)), ?_, ?_⟩
                · have e1 : brE eNil = 1 := by unfold eNil; rw [brE_mk]; rfl
                  have e2 : one0 eNil 5 = 0 := by decide
                  simp only [accB, thrJ, cntT, Tk.cost, e1, e2]
                  rw [if_pos trivial]; omega
                · unfold eNil; rw [lvE_mk]; rfl
              · exact hbr _ n ht rfl h0
            | _ => rw [ht1] at h0; exact hbr _ n ht rfl h0
          · injection hr with hr; cases hr
        | _ => rw [ht] at hr; injection hr with hr; cases hr
      · injection hr with hr; cases hr
/-- a whole text that is read -/
theorem whole_took {s : List UInt8} {e : Ex} (h : Whole s (.ok e [])) : ∃ ts, Str (skipL false s) ts [] ∧ brE e ≤ cntT ts ∧ lvE e = lvsT ts := by
  rcases h with ⟨_, h⟩ | ⟨_, R, ⟨f, hR⟩, h⟩
  · cases h
  · rcases h with ⟨l', rfl, h⟩ | ⟨e', l', rfl, ⟨_, h⟩ | ⟨_, h⟩⟩
    · cases h
    · injection h with h1 h2
      subst h1 h2
      obtain ⟨ts, a, b, c⟩ := rd_took _ _ _ _ _ hR
      refine ⟨ts, a, ?_, ?_⟩
      · simp only [accB, thrJ] at b; omega
      · simpa [accL] using c
    · cases h
end Go.Proofs.YtndhbdbfjkmloaaDoor
namespace Go.Proofs.YtndhbdbfjkmloaaDoor
open Go.RowKit

inductive Pc where
  | bl
  | sg (c : UInt8)
  | nd (e : Ex) (t : List UInt8)
  | bd (t : List UInt8)
def Pc.text : Pc → List UInt8
  | .bl => [32]
  | .sg c => [c]
  | .nd _ t => t
  | .bd t => t
def Pc.toks : Pc → List Tk
  | .bl => []
  | .sg c => [.sg c.toNat]
  | .nd e _ => [.nd e]
  | .bd _ => []
def Pc.isBd : Pc → Bool | .bd _ => true | _ => false
def flatP : List Pc → List UInt8
  | [] => []
  | p :: P => p.text ++ flatP P
def toksP : List Pc → List Tk
  | [] => []
  | p :: P => p.toks ++ toksP P
theorem flatP_app : ∀ a b : List Pc, flatP (a ++ b) = flatP a ++ flatP b
  | [], b => by simp [flatP]
  | t :: a, b => by simp only [List.cons_append, flatP, flatP_app a b, List.append_assoc]
theorem toksP_app : ∀ a b : List Pc, toksP (a ++ b) = toksP a ++ toksP b
  | [], b => by simp [toksP]
  | t :: a, b => by simp only [List.cons_append, toksP, toksP_app a b, List.append_assoc]
def SgC (c : UInt8) : Prop := c = 40 ∨ c = 41 ∨ c = 47 ∨ c = 38 ∨ c = 33 ∨ c = 63 ∨ c = 42 ∨ c = 43
/-- a leaf and its text, as it is printed -/
inductive LeafO : Ex → List UInt8 → Prop where
  | name (t : List UInt8) : nameB t = true → LeafO (eRef t) t
  | lit (s : List UInt8) : s ≠ [] → LeafO (eLit s) (litL s)
  | cls (w : List Nat) : w.length = 4 → Words w → LeafO (eSet w) (clsAll w)
  | any : LeafO eAny [46]
/-- .. or one that was changed -/
inductive LeafP (e : Ex) (t : List UInt8) : Prop where
  | old : LeafO e t → LeafP e t
  | raw : (∀ r, tokL (t ++ r) = .nd e t.length ∧ Solid (t ++ r)) → e.kindX ≠ 1 → LeafP e t
theorem LeafP.tok {e : Ex} {t : List UInt8} (h : LeafP e t) {r : List UInt8} (hr : Sep r) : tokL (t ++ r) = .nd e t.length ∧ Solid (t ++ r) := by
  rcases h with h | ⟨h, _⟩
  · cases h with
    | name _ h => exact tok_name h hr
    | lit s h => have := tok_lit s r; rw [if_neg h] at this; exact this
    | cls w h1 h2 => exact tok_cls h1 h2 r
    | any => exact tok_any r
  · exact h r
theorem LeafP.kind {e : Ex} {t : List UInt8} (h : LeafP e t) : e.kindX ≠ 1 := by
  rcases h with h | ⟨_, h⟩
  · cases h with
    | name => show (4 : Int) ≠ 1; decide
    | lit => show (3 : Int) ≠ 1; decide
    | cls => show (2 : Int) ≠ 1; decide
    | any => show (2 : Int) ≠ 1; decide
  · exact h
/-- as it is printed -/
def Pc.was : Pc → Prop
  | .bl => True
  | .sg _ => True
  | .nd e t => LeafO e t
  | .bd _ => False
theorem Pc.was.nb {p : Pc} (h : p.was) : p.isBd = false := by
  cases p with
  | bd => exact h.elim
  | _ => rfl
/-- begins no name -/
def Pc.open : Pc → Bool | .bl => true | .sg _ => true | _ => false
def sepP : List Pc → Bool
  | [] => true
  | p :: _ => p.open
def Pc.ok : Pc → Prop
  | .bl => True
  | .sg c => SgC c
  | .nd e t => LeafP e t
  | .bd t => ∀ r, tokL (t ++ r) = .bad ∧ Solid (t ++ r)
def goodP : List Pc → Prop
  | [] => True
  | p :: P => p.ok ∧ (p.open = false → sepP P = true) ∧ goodP P
theorem sg_sep {c : UInt8} (h : SgC c) (r : List UInt8) : Sep (c :: r) := (Fol.sg h r).sep
theorem sep_flat {P : List Pc} (hg : goodP P) (h : sepP P = true) : Sep (flatP P) := by
  cases P with
  | nil => exact sep_nil
  | cons p P =>
    cases p with
    | bl => exact sep_32 _
    | sg c => exact sg_sep hg.1 _
    | nd => cases h
    | bd => cases h
theorem str_good : ∀ (P : List Pc), goodP P → (∀ p ∈ P, p.isBd = false) → Str (skipL false (flatP P)) (toksP P) []
  | [], _, _ => .nil _
  | .bl :: P, h, hb => by
    show Str (skipL false (32 :: flatP P)) _ _
    rw [skip_32]
    exact str_good P h.2.2 fun p hp => hb p (.tail _ hp)
  | .sg c :: P, h, hb => by
    obtain ⟨t, s⟩ := tok_sg h.1 (flatP P)
    show Str (skipL false (c :: flatP P)) _ _
    rw [s]
    exact .sg t (by rw [go_one]; exact str_good P h.2.2 fun p hp => hb p (.tail _ hp))
  | .nd e t :: P, h, hb => by
    obtain ⟨k, s⟩ := LeafP.tok h.1 (sep_flat h.2.2 (h.2.1 rfl))
    show Str (skipL false (t ++ flatP P)) _ _
    rw [s]
    exact .nd k (by rw [go_left]; exact str_good P h.2.2 fun p hp => hb p (.tail _ hp))
  | .bd t :: P, h, hb => by cases hb _ (.head _)
theorem str_bad : ∀ (P : List Pc), goodP P → (∃ p ∈ P, p.isBd = true) → ∀ ts, ¬ Str (skipL false (flatP P)) ts []
  | [], _, ⟨_, hp, _⟩ => by cases hp
  | .bl :: P, h, ⟨p, hp, hb⟩ => by
    intro ts
    show ¬ Str (skipL false (32 :: flatP P)) _ _
    rw [skip_32]
    refine str_bad P h.2.2 ⟨p, ?_, hb⟩ ts
    rcases List.mem_cons.1 hp with rfl | hp
    · cases hb
    · exact hp
  | .sg c :: P, h, ⟨p, hp, hb⟩ => by
    intro ts
    obtain ⟨t, s⟩ := tok_sg h.1 (flatP P)
    show ¬ Str (skipL false (c :: flatP P)) _ _
    rw [s]
    have hP : p ∈ P := by
      rcases List.mem_cons.1 hp with rfl | hp
      · cases hb
      · exact hp
    intro hs
    cases hs with
    | nd h1 _ => rw [t] at h1; cases h1
    | sg h1 h2 =>
      rw [t] at h1
      injection h1 with e1 e2
      subst e1 e2
      rw [go_one] at h2
      exact str_bad P h.2.2 ⟨p, hP, hb⟩ _ h2
  | .nd e t :: P, h, ⟨p, hp, hb⟩ => by
    intro ts
    obtain ⟨k, s⟩ := LeafP.tok h.1 (sep_flat h.2.2 (h.2.1 rfl))
    show ¬ Str (skipL false (t ++ flatP P)) _ _
    rw [s]
    have hP : p ∈ P := by
      rcases List.mem_cons.1 hp with rfl | hp
      · cases hb
      · exact hp
    generalize hl : t ++ flatP P = l at k
    have hgo : goL l t.length = skipL false (flatP P) := by rw [← hl, go_left]
    intro hs
    cases hs with
    | nil => cases k
    | sg h1 _ => rw [k] at h1; cases h1
    | nd h1 h2 =>
      rw [k] at h1
      injection h1 with e1 e2
      subst e1 e2
      rw [hgo] at h2
      exact str_bad P h.2.2 ⟨p, hP, hb⟩ _ h2
  | .bd t :: P, h, _ => by
    intro ts
    obtain ⟨k, s⟩ := (show ∀ r, tokL (t ++ r) = .bad ∧ Solid (t ++ r) from h.1) (flatP P)
    show ¬ Str (skipL false (t ++ flatP P)) _ _
    rw [s]
    generalize t ++ flatP P = l at k
    intro hs
    cases hs with
    | nil => cases k
    | sg h1 _ => rw [k] at h1; cases h1
    | nd h1 h2 => rw [k] at h1; cases h1

/-! an expression's pieces -/
def brkP (e : Ex) (least : Nat) (P : List Pc) : List Pc := if lvl e.kindX < least then .sg 40 :: (P ++ [.sg 41]) else P
mutual
def pcE : Ex → List Pc
  | .mk k a b c d t ks =>
    if k = 1 then [.sg 40, .sg 41]
    else if k = 2 then (if a = wM ∧ b = wM ∧ c = wM ∧ d = wM then [.nd (.mk k a b c d t ks) [46]] else [.nd (.mk k a b c d t ks) (clsAll [a.toNat, b.toNat, c.toNat, d.toNat])])
    else if k = 3 then [.nd (.mk k a b c d t ks) (litL t.data.toList)]
    else if k = 4 then [.nd (.mk k a b c d t ks) t.data.toList]
    else if k = 10 then .sg 38 :: pcL 3 [] ks
    else if k = 11 then .sg 33 :: pcL 3 [] ks
    else if k = 7 then pcL 4 [] ks ++ [.sg 42]
    else if k = 8 then pcL 4 [] ks ++ [.sg 43]
    else if k = 9 then pcL 4 [] ks ++ [.sg 63]
    else if k = 6 then (pcL 2 [.bl, .sg 47, .bl] ks).drop 3
    else (pcL 3 [.bl] ks).drop 1
def pcL (least : Nat) (sep : List Pc) : List Ex → List Pc
  | [] => []
  | e :: es => sep ++ (brkP e least (pcE e) ++ pcL least sep es)
end
theorem flat_brk {e : Ex} (h : flatP (pcE e) = txE e) (least : Nat) : flatP (brkP e least (pcE e)) = brk e least (txE e) := by
  unfold brkP brk
  split
  · show [40] ++ flatP (pcE e ++ [.sg 41]) = _
    rw [flatP_app, h]; rfl
  · exact h
theorem flat_pcL (least : Nat) (sep : List Pc) : ∀ ks : List Ex, (∀ e ∈ ks, flatP (pcE e) = txE e) → flatP (pcL least sep ks) = Lib.joinTail (flatP sep) (txL least ks)
  | [], _ => by rw [pcL, txL]; rfl
  | e :: es, h => by
    rw [pcL, txL, flatP_app, flatP_app, flat_brk (h e (.head _)), flat_pcL least sep es fun x hx => h x (.tail _ hx)]
    simp [Lib.joinTail]
theorem joinTail_nil : ∀ xs : List (List UInt8), Lib.joinTail [] xs = xs.flatten
  | [] => rfl
  | x :: xs => by simp [Lib.joinTail]
theorem flat_drop (least : Nat) (sep : List Pc) (ks : List Ex) (h : ∀ e ∈ ks, flatP (pcE e) = txE e) : flatP ((pcL least sep ks).drop sep.length) = Lib.join (txL least ks) (flatP sep) := by
  cases ks with
  | nil => rw [pcL, txL]; simp [flatP, Lib.join]
  | cons e es =>
    rw [pcL, txL, List.drop_left, Lib.join_cons, flatP_app, flat_brk (h e (.head _)), flat_pcL least sep es fun x hx => h x (.tail _ hx)]
theorem flat_pcE (e : Ex) : flatP (pcE e) = txE e := by
  induction e using Ex.ind with
  | h k a b c d t ks ih =>
    rw [pcE, txE]
    split
    · rfl
    split
    · split <;> simp [flatP, Pc.text]
    split
    · simp [flatP, Pc.text]
    split
    · simp [flatP, Pc.text]
    have h0 : ∀ least, flatP (pcL least [] ks) = (txL least ks).flatten := fun least => by rw [flat_pcL least [] ks ih, ← joinTail_nil]; rfl
    split
    · show [38] ++ _ = _; rw [h0]; rfl
    split
    · show [33] ++ _ = _; rw [h0]; rfl
    split
    · rw [flatP_app, h0]; rfl
    split
    · rw [flatP_app, h0]; rfl
    split
    · rw [flatP_app, h0]; rfl
    split
    · exact flat_drop 2 [.bl, .sg 47, .bl] ks ih
    · exact flat_drop 3 [.bl] ks ih
end Go.Proofs.YtndhbdbfjkmloaaDoor
