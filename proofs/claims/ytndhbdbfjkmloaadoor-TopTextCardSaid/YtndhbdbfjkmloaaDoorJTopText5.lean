/- Reading comes to an end; what is read is formed well: plain. strings.HasPrefix, by itself. The reader's small steps: letter, bad, skip. What quote.Unlit answers where it can't be read. -/
import Derived.Test.YtndhbdbfjkmloaaDoorJTopText3
import Derived.Test.YtndhbdbfjkmloaaDoorJTopText4
import Derived.Test.YtndhbdbfjkmloaaDoorJTopText0
import Derived.Lib.Strings
import Derived.WalkLawsBesides
import Derived.Test.YtndhbdbfjkmloaaDoorJTopText1
namespace Go.Proofs.YtndhbdbfjkmloaaDoor
set_option maxHeartbeats 4000000
set_option maxRecDepth 100000
open Go.RowKit
theorem unl_bd (q : Nat) (sg : List UInt8) : ∀ (f : Nat) (l : List UInt8) (o : List UInt8) (n : Nat), unl q sg f l = some (o, n) -> 1 <= n /\ n <= l.length /\ o.length + 1 <= n
  | 0, _, _, _, h => by cases h
  | f + 1, l, o, n, h => by
    by_cases hl : l = []
    · subst hl; cases h
    · rw [unl_step _ _ _ hl] at h
      have h0 : 0 < l.length := List.length_pos_iff.2 hl
      split at h
      · injection h with h
        injection h with h1 h2
        subst h1 h2
        exact ⟨Nat.le_refl _, h0, Nat.le_refl _⟩
      · split at h
        · cases h
        · rename_i hn
          cases hu : unl q sg f (l.drop (nextN sg l).2) with
          | none => rw [hu] at h; cases h
          | some x =>
            obtain ⟨o', n'⟩ := x
            rw [hu] at h
            injection h with h
            injection h with h1 h2
            obtain ⟨i1, i2, i3⟩ := unl_bd q sg f _ o' n' hu
            have hb := (nextN_bd sg l hl).1
            rw [List.length_drop] at i2
            subst h1 h2
            simp only [List.length_cons]
            omega
theorem unc_bd : ∀ (f : Nat) (l : List UInt8) (acc w : List Nat) (n : Nat), acc.length = 4 -> Words acc -> unc f l acc = some (w, n) -> 1 <= n /\ n <= l.length /\ w.length = 4 /\ Words w
  | 0, _, _, _, _, _, _, h => by cases h
  | f + 1, [], _, _, _, _, _, h => by cases h
  | f + 1, x :: l, acc, w, n, ha, hw, h => by
    have hl : x :: l ≠ [] := by simp
    have hb := nextN_bd sgC _ hl
    rw [unc.eq_def] at h
    dsimp only at h
    generalize hn : nextN sgC (x :: l) = nx at h hb
    obtain ⟨b, m⟩ := nx
    simp only at h hb
    split at h
    · injection h with h
      injection h with h1 h2
      subst h1 h2
      exact ⟨Nat.le_refl _, by simp, ha, hw⟩
    · split at h
      · cases h
      · split at h
        · rename_i hm hc
          have hl2 : (x :: l).drop (m + 1) ≠ [] := by
            intro e
            have := congrArg List.length e
            have h1 := hc.1
            rw [List.length_drop] at this h1
            simp only [List.length_nil] at this
            omega
          have hb2 := nextN_bd sgC _ hl2
          generalize hn2 : nextN sgC ((x :: l).drop (m + 1)) = nx at h hb2
          obtain ⟨b2, m2⟩ := nx
          simp only at h hb2
          split at h
          · cases h
          · rename_i hne
            generalize hu : unc f ((x :: l).drop (m + 1 + m2)) (orW acc (rangeL b (b2 + 1 - b))) = R at h
            cases R with
            | none => cases h
            | some y =>
              obtain ⟨w', n'⟩ := y
              injection h with h
              injection h with h1 h2
              obtain ⟨i1, i2, i3, i4⟩ := unc_bd f _ _ w' n' rfl (orW_words hw (rangeL_words _ _)) hu
              have hb3 := hb2.1
              rw [List.length_drop] at i2 hb3
              subst h1 h2
              exact ⟨by omega, by omega, i3, i4⟩
        · generalize hu : unc f ((x :: l).drop m) (orW acc (rangeL b 1)) = R at h
          cases R with
          | none => cases h
          | some y =>
            obtain ⟨w', n'⟩ := y
            injection h with h
            injection h with h1 h2
            obtain ⟨i1, i2, i3, i4⟩ := unc_bd f _ _ w' n' rfl (orW_words hw (rangeL_words _ _)) hu
            have hb3 := hb.1
            rw [List.length_drop] at i2
            subst h1 h2
            exact ⟨by omega, by omega, i3, i4⟩
def Leaf (m : Nat) (e : Ex) : Prop := ∃ (k a b c d : Int) (t : ByteArray), e = .mk k a b c d t [] /\ I64 k /\ U64 a /\ U64 b /\ U64 c /\ U64 d /\ t.size <= m
theorem u64_0 : U64 0 := by unfold U64; omega
theorem i64_kind {k : Nat} (h : k <= 11) : I64 (k : Int) := by unfold I64; omega
theorem leaf_nil (m : Nat) : Leaf m eNil := ⟨1, 0, 0, 0, 0, ⟨#[]⟩, rfl, i64_kind (k := 1) (by omega), u64_0, u64_0, u64_0, u64_0, Nat.zero_le _⟩
theorem leaf_set (m : Nat) {w : List Nat} (hw : Words w) : Leaf m (eSet w) :=
  ⟨2, _, _, _, _, ⟨#[]⟩, rfl, i64_kind (k := 2) (by omega), (by have := hw 0; unfold U64; omega), (by have := hw 1; unfold U64; omega), (by have := hw 2; unfold U64; omega), (by have := hw 3; unfold U64; omega), Nat.zero_le _⟩
theorem leaf_any (m : Nat) : Leaf m eAny := ⟨2, wM, wM, wM, wM, ⟨#[]⟩, rfl, i64_kind (k := 2) (by omega), by unfold U64 wM; omega, by unfold U64 wM; omega, by unfold U64 wM; omega, by unfold U64 wM; omega, Nat.zero_le _⟩
theorem sz_arr (t : List UInt8) : (⟨t.toArray⟩ : ByteArray).size = t.length := by simp [ByteArray.size]
theorem leaf_lit {m : Nat} {t : List UInt8} (h : t.length <= m) : Leaf m (eLit t) := ⟨3, 0, 0, 0, 0, _, rfl, i64_kind (k := 3) (by omega), u64_0, u64_0, u64_0, u64_0, by rw [sz_arr]; exact h⟩
theorem leaf_ref {m : Nat} {t : List UInt8} (h : t.length <= m) : Leaf m (eRef t) := ⟨4, 0, 0, 0, 0, _, rfl, i64_kind (k := 4) (by omega), u64_0, u64_0, u64_0, u64_0, by rw [sz_arr]; exact h⟩
theorem notL_words {w : List Nat} (hw : Words w) (hl : w.length = 4) : Words (notL w) := by
  obtain ⟨a, b, c, d, rfl⟩ := four_of hl
  intro i
  unfold notL
  match i with
  | 0 => simp; omega
  | 1 => simp; omega
  | 2 => simp; omega
  | 3 => simp; omega
  | i + 4 => simp
theorem nameL_le : ∀ l : List UInt8, nameL l <= l.length
  | [] => Nat.le_refl _
  | c :: l => by
    rw [nameL]
    have := nameL_le l
    split
    · simp only [List.length_cons]; omega
    · omega
inductive TokB (l : List UInt8) : Tok -> Prop where
  | fin : l = [] -> TokB l .fin
  | bad : TokB l .bad
  | nd (e : Ex) (n : Nat) : 1 <= n -> n <= l.length -> Leaf l.length e -> TokB l (.nd e n)
  | sg (c n : Nat) : 1 <= n -> n <= l.length -> 0 < c -> c < 256 -> TokB l (.sg c n)
theorem bt_ne_len {r : List UInt8} {k : Nat} (h : bt r 0 = k) (hk : k ≠ 0) : 0 < r.length := by
  cases r with
  | nil => exact absurd h.symm hk
  | cons => simp
theorem tok_b (l : List UInt8) : TokB l (tokL l) := by
  cases l with
  | nil => exact .fin rfl
  | cons c r =>
    have hc := c.toNat_lt
    rw [tokL]
    split
    · split
      · exact .bad
      · rename_i o n hu
        obtain ⟨h1, h2, h3⟩ := unl_bd _ _ _ _ _ _ hu
        refine .nd _ _ (by omega) (by simp; omega) ?_
        split
        · exact leaf_nil _
        · exact leaf_lit (by simp; omega)
    · split
      · split
        · rename_i hb
          have hr := bt_ne_len hb (by decide)
          split
          · exact .bad
          · rename_i w n hu
            obtain ⟨h1, h2, h3, h4⟩ := unc_bd _ _ _ _ _ rfl Words.zero hu
            rw [List.length_drop] at h2
            exact .nd _ _ (by omega) (by simp; omega) (leaf_set _ (notL_words h4 h3))
        · split
          · exact .bad
          · rename_i w n hu
            obtain ⟨h1, h2, h3, h4⟩ := unc_bd _ _ _ _ _ rfl Words.zero hu
            exact .nd _ _ (by omega) (by simp; omega) (leaf_set _ h4)
      · split
        · exact .nd _ _ (by omega) (by simp) (leaf_any _)
        · split
          · rename_i h
            refine .sg _ _ (by omega) (by simp) ?_ hc
            rcases h with rfl | rfl | rfl | rfl | rfl | rfl | rfl | rfl <;> decide
          · split
            · rename_i h
              have hr := bt_ne_len h.2 (by decide)
              exact .sg _ _ (by omega) (by simp; omega) (by omega) (by omega)
            · split
              · rename_i h
                have h1 : isLD c.toNat = true := by unfold isLD; rw [h]; rfl
                have h2 := nameL_le (c :: r)
                have h3 : 1 <= nameL (c :: r) := by rw [nameL, if_pos h1]; omega
                exact .nd _ _ h3 h2 (leaf_ref (by rw [List.length_take]; omega))
              · exact .bad
theorem tok_nd {l : List UInt8} {e : Ex} {n : Nat} (h : tokL l = .nd e n) : 1 <= n /\ n <= l.length /\ Leaf l.length e := by
  have := tok_b l
  rw [h] at this
  cases this with
  | nd _ _ h1 h2 h3 => exact ⟨h1, h2, h3⟩
theorem tok_sgn {l : List UInt8} {c n : Nat} (h : tokL l = .sg c n) : 1 <= n /\ n <= l.length /\ 0 < c /\ c < 256 := by
  have := tok_b l
  rw [h] at this
  cases this with
  | sg _ _ h1 h2 h3 h4 => exact ⟨h1, h2, h3, h4⟩
theorem skip_le : ∀ (b : Bool) (l : List UInt8), (skipL b l).length <= l.length
  | _, [] => by simp [skipL]
  | false, c :: l => by
    have h1 := skip_le false l
    have h2 := skip_le true l
    rw [skipL]
    split
    · simp only [List.length_cons]; omega
    · split
      · simp only [List.length_cons]; omega
      · exact Nat.le_refl _
  | true, c :: l => by
    have h1 := skip_le false l
    have h2 := skip_le true l
    rw [skipL]
    split
    · simp only [List.length_cons]; omega
    · simp only [List.length_cons]; omega
theorem go_lt {l : List UInt8} {n : Nat} (h1 : 1 <= n) (h2 : n <= l.length) : (goL l n).length < l.length := by
  have := skip_le false (l.drop n)
  unfold goL
  rw [List.length_drop] at this
  omega
def rankJ : Pj -> Nat
  | .alt => 3
  | .altL _ => 0
  | .seq => 2
  | .seqL _ => 2
  | .pre => 1
  | .post _ => 0
  | .pri => 0
def eatJ : Pj -> Nat
  | .altL _ => 0
  | .seqL _ => 0
  | .post _ => 0
  | _ => 1
def EndsJ (h : Bool) (j : Pj) (l : List UInt8) : Prop := ∃ R, Rd h j l R /\ ∀ e l', R = .ok e l' -> l'.length + eatJ j <= l.length
section
variable {h : Bool} {l l1 : List UInt8} {e : Ex} {R R1 : Rs} {acc : List Ex} {j j1 : Pj}
theorem ends_bind (hx : EndsJ h j1 l1) {k : Ex -> List UInt8 -> Nat -> Option Rs} {len m : Nat}
    (hk : ∀ e l2, l2.length + eatJ j1 <= l1.length -> ∃ f R, k e l2 f = some R /\ (∀ f', f <= f' -> k e l2 f' = some R) /\ ∀ e' l', R = .ok e' l' -> l'.length + m <= len) :
    ∃ f R, (∀ f', f <= f' -> bindR (rdJ h f' j1 l1) (fun e l2 => k e l2 f') = some R) /\ ∀ e' l', R = .ok e' l' -> l'.length + m <= len := by
  obtain ⟨R1, ⟨f1, hf1⟩, hlen⟩ := hx
  cases R1 with
  | no l2 => exact ⟨f1, .no l2, fun f' hf' => by rw [rdJ_le hf' hf1]; rfl, fun e' l' he => by cases he⟩
  | ok e l2 =>
    obtain ⟨f2, R, _, hk2, hk3⟩ := hk e l2 (hlen e l2 rfl)
    exact ⟨max f1 f2, R, fun f' hf' => by rw [rdJ_le (by omega) hf1]; exact hk2 f' (by omega), hk3⟩
end
theorem thenGo_ends {l : List UInt8} {n : Nat} {k : List UInt8 -> Nat -> Option Rs} {len m : Nat}
    (hk : ∃ f R, (∀ f', f <= f' -> k (goL l n) f' = some R) /\ ∀ e' l', R = .ok e' l' -> l'.length + m <= len) :
    ∃ f R, (∀ f', f <= f' -> thenGo l n (fun l1 => k l1 f') = some R) /\ ∀ e' l', R = .ok e' l' -> l'.length + m <= len := by
  unfold thenGo
  by_cases hb : (tokL (goL l n)).isBad = true
  · exact ⟨0, .no _, fun f' _ => by rw [if_pos hb], fun e' l' he => by cases he⟩
  · obtain ⟨f, R, h1, h2⟩ := hk
    exact ⟨f, R, fun f' hf => by rw [if_neg hb]; exact h1 f' hf, h2⟩
theorem EndsJ.up {h : Bool} {j : Pj} {l : List UInt8} (H : EndsJ h j l) : ∃ f R, (∀ f', f <= f' -> rdJ h f' j l = some R) /\ ∀ e' l', R = .ok e' l' -> l'.length + eatJ j <= l.length := by
  obtain ⟨R, ⟨f, hf⟩, hl⟩ := H
  exact ⟨f, R, fun f' h' => rdJ_le h' hf, hl⟩
theorem EndsJ.of {h : Bool} {j : Pj} {l : List UInt8} (H : ∃ f R, (∀ f', f <= f' -> rdJ h (f' + 1) j l = some R) /\ ∀ e' l', R = .ok e' l' -> l'.length + eatJ j <= l.length) : EndsJ h j l := by
  obtain ⟨f, R, h1, h2⟩ := H
  exact ⟨R, ⟨f + 1, h1 f (Nat.le_refl _)⟩, h2⟩
theorem up_bind {h : Bool} {j1 : Pj} {l1 : List UInt8} {k : Ex -> List UInt8 -> Nat -> Option Rs} {len m : Nat} (hx : EndsJ h j1 l1)
    (hk : ∀ e l2, l2.length + eatJ j1 <= l1.length -> ∃ f R, (∀ f', f <= f' -> k e l2 f' = some R) /\ ∀ e' l', R = .ok e' l' -> l'.length + m <= len) :
    ∃ f R, (∀ f', f <= f' -> bindR (rdJ h f' j1 l1) (fun e l2 => k e l2 f') = some R) /\ ∀ e' l', R = .ok e' l' -> l'.length + m <= len :=
  ends_bind hx fun e l2 hl => by
    obtain ⟨f, R, h1, h2⟩ := hk e l2 hl
    exact ⟨f, R, h1 f (Nat.le_refl _), h1, h2⟩
theorem const_ends {R : Rs} {len m : Nat} (h : ∀ e' l', R = .ok e' l' -> l'.length + m <= len) : ∃ (f : Nat) (R' : Rs), (∀ f', f <= f' -> some R = some R') /\ ∀ e' l', R' = .ok e' l' -> l'.length + m <= len := ⟨0, R, fun _ _ => rfl, h⟩
theorem len_ends {x : Nat -> Option Rs} {len len' m m' : Nat} (h : ∃ (f : Nat) (R' : Rs), (∀ f', f <= f' -> x f' = some R') /\ ∀ e' l', R' = .ok e' l' -> l'.length + m <= len) (hm : ∀ k : Nat, k + m <= len -> k + m' <= len') : ∃ (f : Nat) (R' : Rs), (∀ f', f <= f' -> x f' = some R') /\ ∀ e' l', R' = .ok e' l' -> l'.length + m' <= len' := by
  obtain ⟨f, R, h1, h2⟩ := h
  exact ⟨f, R, h1, fun e' l' he => hm _ (h2 e' l' he)⟩
theorem rd_ends_aux (h : Bool) : ∀ (N : Nat) (j : Pj) (l : List UInt8), 4 * l.length + rankJ j < N -> EndsJ h j l := by
  intro N
  induction N with
  | zero => intro j l hN; omega
  | succ N ih =>
    intro j l hN
    refine EndsJ.of ?_
    have endp : ∀ (e : Ex) (k : Nat) (l2 : List UInt8), k + l2.length <= l.length -> ∀ e' l', Rs.ok e l2 = .ok e' l' -> l'.length + k <= l.length := fun e k l2 hk e' l' he => by
      injection he with e1 e2
      subst e2
      omega
    cases j with
    | alt =>
      simp only [rdJ]
      refine up_bind (ih .seq l (by simp only [rankJ] at hN ⊢; omega)) fun e l2 hl => ?_
      simp only [eatJ] at hl
      exact len_ends (ih (.altL [e]) l2 (by simp only [rankJ] at hN ⊢; omega)).up (fun k hk => by simp only [eatJ] at hk ⊢; omega)
    | altL acc =>
      simp only [rdJ]
      cases ht : tokL l with
      | sg c n =>
        obtain ⟨h1, h2, _⟩ := tok_sgn ht
        have hg := go_lt h1 h2
        simp only
        by_cases hc : c = 47
        · simp only [if_pos hc]
          refine thenGo_ends (k := fun l1 f => bindR (rdJ h f .seq l1) fun e l2 => rdJ h f (.altL (acc ++ [e])) l2) ?_
          refine up_bind (ih .seq _ (by simp only [rankJ] at hN ⊢; omega)) fun e l2 hl => ?_
          simp only [eatJ] at hl
          exact len_ends (ih (.altL (acc ++ [e])) l2 (by simp only [rankJ] at hN ⊢; omega)).up (fun k hk => by simp only [eatJ] at hk ⊢; omega)
        · simp only [if_neg hc]
          exact const_ends (endp _ _ _ (by simp [eatJ]))
      | _ => exact const_ends (endp _ _ _ (by simp [eatJ]))
    | seq =>
      simp only [rdJ]
      refine up_bind (ih .pre l (by simp only [rankJ] at hN ⊢; omega)) fun e l2 hl => ?_
      simp only [eatJ] at hl
      exact len_ends (ih (.seqL [e]) l2 (by simp only [rankJ] at hN ⊢; omega)).up (fun k hk => by simp only [eatJ] at hk ⊢; omega)
    | seqL acc =>
      simp only [rdJ]
      by_cases hb : begL h l = true
      · simp only [if_pos hb]
        refine up_bind (ih .pre l (by simp only [rankJ] at hN ⊢; omega)) fun e l2 hl => ?_
        simp only [eatJ] at hl
        exact len_ends (ih (.seqL (acc ++ [e])) l2 (by simp only [rankJ] at hN ⊢; omega)).up (fun k hk => by simp only [eatJ] at hk ⊢; omega)
      · simp only [if_neg hb]
        exact const_ends (endp _ _ _ (by simp [eatJ]))
    | pre =>
      simp only [rdJ]
      have hpri : ∃ f R, (∀ f', f <= f' -> bindR (rdJ h f' .pri l) (fun e l1 => rdJ h f' (.post e) l1) = some R) /\ ∀ e' l', R = .ok e' l' -> l'.length + 1 <= l.length := by
        refine up_bind (ih .pri l (by simp only [rankJ] at hN ⊢; omega)) fun e l2 hl => ?_
        simp only [eatJ] at hl
        exact len_ends (ih (.post e) l2 (by simp only [rankJ] at hN ⊢; omega)).up (fun k hk => by simp only [eatJ] at hk ⊢; omega)
      cases ht : tokL l with
      | sg c n =>
        obtain ⟨h1, h2, _⟩ := tok_sgn ht
        have hg := go_lt h1 h2
        simp only
        by_cases hc : c = 38 \/ c = 33
        · simp only [if_pos hc]
          refine thenGo_ends (k := fun l1 f => bindR (rdJ h f .pre l1) fun e l2 => some (.ok (.mk (if c = 38 then 10 else 11) 0 0 0 0 ⟨#[]⟩ [e]) l2)) ?_
          refine up_bind (ih .pre _ (by simp only [rankJ] at hN ⊢; omega)) fun e l2 hl => ?_
          simp only [eatJ] at hl
          exact const_ends (endp _ 1 _ (by omega))
        · simp only [if_neg hc]
          exact hpri
      | _ => exact hpri
    | post e =>
      simp only [rdJ]
      cases ht : tokL l with
      | sg c n =>
        obtain ⟨h1, h2, _⟩ := tok_sgn ht
        have hg := go_lt h1 h2
        simp only
        by_cases hc : c = 63 \/ c = 42 \/ c = 43
        · simp only [if_pos hc]
          refine thenGo_ends (k := fun l1 f => rdJ h f (.post (.mk (postK c) 0 0 0 0 ⟨#[]⟩ [e])) l1) ?_
          exact len_ends (ih (.post _) (goL l n) (by simp only [rankJ] at hN ⊢; omega)).up (fun k hk => by simp only [eatJ] at hk ⊢; omega)
        · simp only [if_neg hc]
          exact const_ends (endp _ _ _ (by simp [eatJ]))
      | _ => exact const_ends (endp _ _ _ (by simp [eatJ]))
    | pri =>
      simp only [rdJ]
      have hno : ∀ l2, ∃ (f : Nat) (R' : Rs), (∀ f', f <= f' -> some (Rs.no l2) = some R') /\ ∀ e' l', R' = .ok e' l' -> l'.length + 1 <= l.length := fun l2 => const_ends (fun e' l' he => by cases he)
      by_cases hb : begL h l = true
      · simp only [if_pos hb]
        cases ht : tokL l with
        | fin => exact hno _
        | bad => exact hno _
        | nd e n =>
          obtain ⟨h1, h2, _⟩ := tok_nd ht
          have hg := go_lt h1 h2
          simp only
          exact thenGo_ends (k := fun l1 f => some (.ok e l1)) (const_ends (endp _ 1 _ (by omega)))
        | sg c n =>
          obtain ⟨h1, h2, _⟩ := tok_sgn ht
          have hg := go_lt h1 h2
          simp only
          by_cases hc : c = 40
          · simp only [if_pos hc]
            have halt : ∀ l1 : List UInt8, l1.length < l.length -> ∃ f R, (∀ f', f <= f' -> bindR (rdJ h f' .alt l1) (fun e l2 => match tokL l2 with
                | .sg c2 n2 => if c2 = 41 then thenGo l2 n2 fun l3 => some (.ok e l3) else some (.no l2)
                | _ => some (.no l2)) = some R) /\ ∀ e' l', R = .ok e' l' -> l'.length + 1 <= l.length := fun l1 hl1 => by
              refine up_bind (ih .alt l1 (by simp only [rankJ] at hN ⊢; omega)) fun e l2 hl => ?_
              simp only [eatJ] at hl
              cases ht2 : tokL l2 with
              | sg c2 n2 =>
                obtain ⟨q1, q2, _⟩ := tok_sgn ht2
                have hg2 := go_lt q1 q2
                simp only
                by_cases hc2 : c2 = 41
                · simp only [if_pos hc2]
                  exact thenGo_ends (k := fun l3 f => some (.ok e l3)) (const_ends (endp _ 1 _ (by omega)))
                · simp only [if_neg hc2]
                  exact hno _
              | _ => exact hno _
            refine thenGo_ends (k := fun l1 f => match tokL l1 with
              | .sg c1 n1 => if c1 = 41 then thenGo l1 n1 fun l2 => some (.ok eNil l2) else bindR (rdJ h f .alt l1) fun e l2 => match tokL l2 with
                | .sg c2 n2 => if c2 = 41 then thenGo l2 n2 fun l3 => some (.ok e l3) else some (.no l2)
                | _ => some (.no l2)
              | _ => bindR (rdJ h f .alt l1) fun e l2 => match tokL l2 with
                | .sg c2 n2 => if c2 = 41 then thenGo l2 n2 fun l3 => some (.ok e l3) else some (.no l2)
                | _ => some (.no l2)) ?_
            cases ht1 : tokL (goL l n) with
            | sg c1 n1 =>
              obtain ⟨q1, q2, _⟩ := tok_sgn ht1
              have hg1 := go_lt q1 q2
              simp only
              by_cases hc1 : c1 = 41
              · simp only [if_pos hc1]
                exact thenGo_ends (k := fun l3 f => some (.ok eNil l3)) (const_ends (endp _ 1 _ (by omega)))
              · simp only [if_neg hc1]
                exact halt _ hg
            | _ => exact halt _ hg
          · simp only [if_neg hc]
            exact hno _
      · simp only [if_neg hb]
        exact hno _
theorem rd_ends (h : Bool) (j : Pj) (l : List UInt8) : EndsJ h j l := rd_ends_aux h _ j l (Nat.lt_succ_self _)
theorem Leaf.wf {m : Nat} {e : Ex} (h : Leaf m e) : WfE e := by
  obtain ⟨k, a, b, c, d, t, rfl, h1, h2, h3, h4, h5, _⟩ := h
  exact .mk _ _ _ _ _ _ _ h1 h2 h3 h4 h5 fun e he => by cases he
theorem hasPrefix0X_any (s p : ByteArray) (w : World) : Calls Tryd.prog 120 #[.string s, .string p] w fun e w' => e = .returned (.bool (p.data.toList.isPrefixOf s.data.toList)) /\ Below w.heap.size w w' := by
  have HX : Hid ((decide (p.data.toList.length <= s.data.toList.length) && (s.data.toList.take p.data.toList.length == p.data.toList)) = p.data.toList.isPrefixOf s.data.toList) := Lib.hasPrefix_of_take _ _
  generalize p.data.toList.isPrefixOf s.data.toList = r at HX
  have HL := Lib.hid (size_list s)
  have HP := Lib.hid (size_list p)
  by_cases h : p.size <= s.size
  · have HY : Hid (((s.extract 0 p.size).toList == p.toList) = r) := by
      show _ = _
      rw [<- HX.out, Lib.extract_toList, ByteArray.toList_eq, List.drop_zero, HL.out, HP.out, decide_eq_true h, Bool.true_and, Nat.sub_zero]
    clear HX
    go_enter Tryd.func120, Tryd.ntmps120
    go_wp2
    go_ret
    exact ⟨ret_bool HY.out, bl⟩
  · have HY : Hid (r = false) := by
      show _ = _
      rw [<- HX.out, HL.out, HP.out, decide_eq_false h, Bool.false_and]
    clear HX
    go_enter Tryd.func120, Tryd.ntmps120
    go_wp2
    go_ret
    exact ⟨ret_bool HY.out.symm, bl⟩
theorem hasPrefixX_any (s p : ByteArray) (w : World) : Calls Tryd.prog 93 #[.string s, .string p] w fun e w' => e = .returned (.bool (p.data.toList.isPrefixOf s.data.toList)) /\ Below w.heap.size w w' := by
  have hc := hasPrefix0X_any s p
  generalize p.data.toList.isPrefixOf s.data.toList = r at hc ⊢
  have HC := Lib.hid hc
  clear hc
  go_enter Tryd.func93, Tryd.ntmps93
  go_wp2_with fail
  refine (HC.out _).mono ?_
  rintro e w1 ⟨rfl, hb⟩
  go_wp2
  go_ret
  exact ⟨rfl, hb⟩
theorem letter_any (c : Nat) (hc : c < 256) (w : World) : Calls Tryd.prog 117 #[.int .u8 (c : Int)] w fun e w' => e = .returned (.bool (isLD c)) /\ w' = w := by
  have h32 := or32 c hc
  have hr : Hid (isLD c = ((decide ((97 : Int) <= ((c ||| 32 : Nat) : Int)) && decide (((c ||| 32 : Nat) : Int) <= 122)) || (decide ((48 : Int) <= (c : Int)) && decide ((c : Int) <= 57)))) := by
    show _ = _
    unfold isLD isLet isDig
    rw [Bool.eq_iff_iff]
    simp only [Bool.or_eq_true, Bool.and_eq_true, decide_eq_true_iff]
    omega
  generalize isLD c = r at hr ⊢
  generalize ((c ||| 32 : Nat) : Int) = x at hr h32
  obtain ⟨q1, e1⟩ : ∃ q, decide ((97 : Int) <= x) = q := ⟨_, rfl⟩
  obtain ⟨q2, e2⟩ : ∃ q, decide (x <= (122 : Int)) = q := ⟨_, rfl⟩
  obtain ⟨q3, e3⟩ : ∃ q, decide ((48 : Int) <= (c : Int)) = q := ⟨_, rfl⟩
  obtain ⟨q4, e4⟩ : ∃ q, decide ((c : Int) <= (57 : Int)) = q := ⟨_, rfl⟩
  rw [e1, e2, e3, e4] at hr
  cases q1 <;> cases q2 <;> cases q3 <;> cases q4
  all_goals
    go_enter Tryd.func117, Tryd.ntmps117
    go_wp2
    go_ret
    exact ⟨ret_bool (by rw [hr.out]; rfl), rfl⟩
def faultV (i : Nat) : Value := .iface 168 (.agg #[.int .i64 (i : Int)])
theorem bad_any (i : Nat) (w : World) : Calls Tryd.prog 95 #[.int .i64 (i : Int)] w fun e w' => e = .panicked [{ v := faultV i, recovered := false }] /\ w' = w := by
  go_enter Tryd.func95, Tryd.ntmps95
  go_wp2
  exact ⟨rfl, rfl, rfl⟩
theorem u8_ne {d : UInt8} (k : UInt8) {n : Int} (h : d ≠ k) (hk : (k.toNat : Int) = n) : ((d.toNat : Int) == n) = false := by
  rw [beq_eq_false_iff_ne, <- hk]
  exact fun e => h (UInt8.toNat_inj.1 (by omega))
theorem u8_bne {d : UInt8} (k : UInt8) {n : Int} (h : d ≠ k) (hk : (k.toNat : Int) = n) : ((d.toNat : Int) != n) = true := by
  rw [bne_iff_ne, <- hk]
  exact fun e => h (UInt8.toNat_inj.1 (by omega))
theorem drop_at {l : List UInt8} {j : Nat} (h : j < l.length) : ∃ c, l[j]? = some c /\ l.drop j = c :: l.drop (j + 1) := by
  refine ⟨l[j], List.getElem?_eq_getElem h, ?_⟩
  exact List.drop_eq_getElem_cons h
theorem skip_drop : ∀ (b : Bool) (l : List UInt8), ∃ k, k <= l.length /\ skipL b l = l.drop k
  | _, [] => ⟨0, by simp, by simp [skipL]⟩
  | false, c :: l => by
    rw [skipL]
    split
    · obtain ⟨k, h1, h2⟩ := skip_drop false l
      exact ⟨k + 1, by simp; omega, by rw [h2]; rfl⟩
    · split
      · obtain ⟨k, h1, h2⟩ := skip_drop true l
        exact ⟨k + 1, by simp; omega, by rw [h2]; rfl⟩
      · exact ⟨0, by simp, rfl⟩
  | true, c :: l => by
    rw [skipL]
    split
    · obtain ⟨k, h1, h2⟩ := skip_drop false l
      exact ⟨k + 1, by simp; omega, by rw [h2]; rfl⟩
    · obtain ⟨k, h1, h2⟩ := skip_drop true l
      exact ⟨k + 1, by simp; omega, by rw [h2]; rfl⟩
def posL (s : ByteArray) (l : List UInt8) : Nat := s.size - l.length
theorem posL_drop {s : ByteArray} {j : Nat} (h : j <= s.size) : posL s (s.data.toList.drop j) = j := by
  unfold posL
  rw [List.length_drop, size_list]
  omega
theorem skip_any (s : ByteArray) (hs : s.size <= 4611686018427387904) (rb i0 : Nat) (hi0 : i0 <= s.size) (w : World) (hc : w.cell? ⟨rb, 0, none⟩ = some (.string s)) :
    Calls Tryd.prog 94 #[.pointer (some ⟨rb, 0, none⟩), .int .i64 (i0 : Int)] w fun e w' => e = .returned (.int .i64 (posL s (skipL false (s.data.toList.drop i0)) : Nat)) /\ w' = w := by
  have HL := Lib.hid (size_list s)
  generalize hR : skipL false (s.data.toList.drop i0) = R
  have HR := Lib.hid hR
  clear hR
  go_enter Tryd.func94, Tryd.ntmps94
  go_wp2
  go_loopw [1] (fun i wr => ∃ j : Nat, j <= s.size /\ i = .int .i64 j /\ Hid (skipL false (s.data.toList.drop j) = R) /\ wr = w) (fun i _ => s.size - (intOf i).toNat)
  case atStart => exact ⟨i0, hi0, rfl, HR, rfl⟩
  case round =>
    obtain ⟨j, hj, rfl, HJ, hw⟩ := hrel
    subst hw
    by_cases hjn : j < s.size
    · obtain ⟨c, hcj, hdj⟩ := drop_at (l := s.data.toList) (j := j) (by rw [HL.out]; exact hjn)
      have hb := bt_of hjn
      have hbt : bt s.data.toList j = c.toNat := by unfold bt; rw [List.getD_eq_getElem?_getD, hcj]; rfl
      rw [hbt] at hb
      have HD := Lib.hid hdj
      have HCJ := Lib.hid hcj
      clear hdj hcj hbt
      by_cases hbl : c = 32 \/ c = 9 \/ c = 10 \/ c = 13
      · have HJ2 : Hid (skipL false (s.data.toList.drop (j + 1)) = R) := by
          show _ = _
          rw [<- HJ.out, HD.out, skipL, if_pos hbl]
        rcases hbl with rfl | rfl | rfl | rfl
        all_goals
          go_wp2
          go_roundw
          case rel => exact ⟨j + 1, by omega, by go_num, HJ2, by first | trivial | rfl⟩
          case measure => simp [intOf]; omega
      · by_cases h35 : c = 35
        · have HJ2 : Hid (skipL true (s.data.toList.drop (j + 1)) = R) := by
            show _ = _
            rw [<- HJ.out, HD.out, skipL, if_neg hbl, if_pos h35]
          subst h35
          have HJ3 : Hid (skipL true (s.data.toList.drop j) = R) := by
            show _ = _
            rw [HD.out, skipL, if_neg (by decide), HJ2.out]
          clear HJ HJ2
          go_wp2
          rename World => ws
          go_loopw [1] (fun i wi => ∃ m : Nat, j <= m /\ m <= s.size /\ i = .int .i64 m /\ Hid (skipL true (s.data.toList.drop m) = R) /\ wi = ws) (fun i _ => s.size - (intOf i).toNat)
          case atStart => exact ⟨j, Nat.le_refl _, by omega, rfl, HJ3, rfl⟩
          case round =>
            obtain ⟨m, hjm, hm, rfl, HM, hw2⟩ := hrel
            subst hw2
            by_cases hmn : m < s.size
            · obtain ⟨d, hdm, hdd⟩ := drop_at (l := s.data.toList) (j := m) (by rw [HL.out]; exact hmn)
              have hbm := bt_of hmn
              have hbt : bt s.data.toList m = d.toNat := by unfold bt; rw [List.getD_eq_getElem?_getD, hdm]; rfl
              rw [hbt] at hbm
              have HDM := Lib.hid hdm
              have HDD := Lib.hid hdd
              clear hdm hdd hbt
              by_cases h10 : d = 10
              · have hmj : j < m := by
                  refine Nat.lt_of_le_of_ne hjm fun e => ?_
                  have h1 := HCJ.out
                  rw [e, HDM.out, h10] at h1
                  exact absurd (Option.some.inj h1) (by decide)
                have HM2 : Hid (skipL false (s.data.toList.drop m) = R) := by
                  show _ = _
                  rw [<- HM.out, HDD.out, h10, skipL, if_pos (by decide), skipL, if_pos rfl]
                subst h10
                go_wp2
                go_roundw
                case rel => exact ⟨m, by omega, rfl, HM2, by first | trivial | rfl⟩
                case measure => simp [intOf]; omega
              · have HM2 : Hid (skipL true (s.data.toList.drop (m + 1)) = R) := by
                  show _ = _
                  rw [<- HM.out, HDD.out]
                  conv => rhs; rw [skipL, if_neg h10]
                have hc8 := d.toNat_lt
                have n3 : ((d.toNat : Int) != 10) = true := u8_bne 10 h10 rfl
                generalize d.toNat = dn at hbm n3
                go_wp2
                go_roundw
                case rel => exact ⟨m + 1, by omega, by omega, by go_num, HM2, by first | trivial | rfl⟩
                case measure => simp [intOf]; omega
            · obtain rfl : m = s.size := by omega
              have HM2 : Hid (skipL false (s.data.toList.drop s.size) = R) := by
                show _ = _
                rw [<- HM.out, List.drop_of_length_le (Nat.le_of_eq HL.out)]
                rfl
              go_wp2
              go_roundw
              case rel => exact ⟨s.size, by omega, rfl, HM2, by first | trivial | rfl⟩
              case measure => simp [intOf]; omega
        · have HJ2 : Hid (R = s.data.toList.drop j) := by
            show _ = _
            rw [<- HJ.out, HD.out, skipL, if_neg hbl, if_neg h35]
          have hp : posL s R = j := by rw [HJ2.out, posL_drop hj]
          have hc8 := c.toNat_lt
          have n1 : ((c.toNat : Int) == 32) = false := u8_ne 32 (fun e => hbl (.inl e)) rfl
          have n2 : ((c.toNat : Int) == 9) = false := u8_ne 9 (fun e => hbl (.inr (.inl e))) rfl
          have n3 : ((c.toNat : Int) == 10) = false := u8_ne 10 (fun e => hbl (.inr (.inr (.inl e)))) rfl
          have n4 : ((c.toNat : Int) == 13) = false := u8_ne 13 (fun e => hbl (.inr (.inr (.inr e)))) rfl
          have n5 : ((c.toNat : Int) == 35) = false := u8_ne 35 (h35) rfl
          generalize c.toNat = cn at hb n1 n2 n3 n4 n5
          go_wp2
          go_ret
          exact ⟨by rw [hp]; rfl, rfl⟩
    · obtain rfl : j = s.size := by omega
      have hp : posL s R = s.size := by
        rw [<- HJ.out, List.drop_of_length_le (Nat.le_of_eq HL.out)]
        rfl
      go_wp2
      go_ret
      exact ⟨by rw [hp]; rfl, rfl⟩
theorem unlit_no (s : ByteArray) (w : World) (hs : s.size <= 4611686018427387904) (h0 : 0 < s.size) (q : Nat) (hq : bt s.data.toList 0 = q) (hq2 : q = 39 \/ q = 34) (hs2 : s.size <= 100000)
    (ho : unl q sgU.data.toList s.size (s.data.toList.drop 1) = none) :
    Calls Tryd.prog 77 #[.string s] w fun e w' => e = .returned (.tuple #[.string ⟨#[]⟩, .int .i64 0, .int .i64 4]) /\ Below w.heap.size w w' := by
  have HL := Lib.hid (size_list s)
  have hb0 := bt_of h0
  rw [hq] at hb0
  have HQ := Lib.hid hq
  have HO := Lib.hid ho
  clear hq ho
  have hne : (s.toList.isEmpty) = false := by
    rw [ByteArray.toList_eq]
    cases h : s.data.toList with
    | nil => have := HL.out; rw [h] at this; simp at this; omega
    | cons => rfl
  obtain ⟨i0, hi0, hz0, hz1, hz2⟩ := info_parts u8_info'
  have hqb : q < 256 := by omega
  have h39 : ((q : Int) != 39) = true /\ ((q : Int) != 34) = false \/ ((q : Int) != 39) = false := by
    rcases hq2 with rfl | rfl
    · right; decide
    · left; decide
  clear hq2
  rcases h39 with ⟨b1, b2⟩ | b1
  all_goals
    go_enter Tryd.func77, Tryd.ntmps77
    go_wp2_with fail
    go_loopw [5, 6, 7, 8] (fun v i _ _ wr => ∃ (k m f : Nat) (acc : List UInt8) (V : Option Addr) (cp : Nat), 1 <= k /\ k <= s.size /\ s.size - k < f /\ i = .int .i64 k /\ v = .slice V m cp /\ wr.ownsRow w.heap.size 5 1 (.slice V m cp) m (u8s acc) /\
      m < k /\ unl q sgU.data.toList f (s.data.toList.drop k) = none /\ Below w.heap.size w wr) (fun _ i _ _ _ => s.size - (intOf i).toNat)
    case atStart => exact ⟨1, 0, s.size, [], none, 0, by omega, by omega, by omega, rfl, rfl, ⟨rfl, .inl ⟨rfl, rfl⟩⟩, by omega, HO.out, Below.refl _ _⟩
    case round =>
      obtain ⟨k, m, f, acc, V, cp, hk1, hk, hf, rfl, rfl, hown, hmk, hun, hbw⟩ := hrel
      have hmacc : acc.length = m := by have := hown.1; rw [u8s_length] at this; omega
      have hsz := hbw.size
      obtain ⟨f', rfl⟩ : ∃ f', f = f' + 1 := ⟨f - 1, by omega⟩
      by_cases hkn : k < s.size
      · have hne' : s.data.toList.drop k ≠ [] := by
          intro h
          have := congrArg List.length h
          rw [List.length_drop, HL.out, List.length_nil] at this
          omega
        rw [unl_step _ _ _ hne', bt_drop] at hun
        have hbk := bt_of hkn
        have hk0 : (0 : Int) <= (k : Int) := by omega
        have hk1 : (k : Int) < (s.size : Int) := by omega
        by_cases hbq : bt s.data.toList k = q
        · rw [if_pos hbq] at hun
          cases hun
        · rw [if_neg hbq] at hun
          generalize hnn : nextN sgU.data.toList (s.data.toList.drop k) = nx at hun
          obtain ⟨b, n⟩ := nx
          have hnb := nextN_bd sgU.data.toList _ hne'
          rw [hnn] at hnb
          simp only at hnb hun
          obtain ⟨hn1, hn2, hn3⟩ := hnb
          rw [List.length_drop, HL.out] at hn1
          have HNN := Lib.hid hnn
          have hbne : (((bt s.data.toList k : Nat) : Int) == (q : Int)) = false := by rw [beq_eq_false_iff_ne]; omega
          by_cases hn0 : n = 0
          · subst hn0
            clear hun hnn hne' hbq
            go_wp2
            go_quiet (fail)
            go_wp2_with fail
            refine (nextq_any (s.extract k s.size) ⟨#[39, 34, 92]⟩ _ ?_).mono ?_
            · have := size_list (s.extract k s.size); rw [Lib.extract_to_end, List.length_drop, HL.out] at this; omega
            rw [Lib.extract_to_end]
            unfold NextQ
            rw [show (⟨#[39, 34, 92]⟩ : ByteArray).data.toList = sgU.data.toList from rfl, HNN.out]
            rintro e w2 ⟨rfl, d, rfl⟩
            go_wp2
            go_ret3
            exact ⟨rfl, below_drewN hbw _⟩
          · rw [if_neg hn0, List.drop_drop] at hun
            have hun2 := Option.map_eq_none_iff.1 hun
            have HREL := Lib.hid hun2
            have hbn : ((b : Int)) = ((UInt8.ofNat b).toNat : Int) := by simp; omega
            have HBN := Lib.hid hbn
            have hn00 : ((n : Int) == 0) = false := by rw [beq_eq_false_iff_ne]; omega
            have hlen : m + 1 <= 140737488351232 := by omega
            clear hun hun2 hnn hbn hne' hbq
            go_wp2
            go_quiet (fail)
            go_wp2_with fail
            refine (nextq_any (s.extract k s.size) ⟨#[39, 34, 92]⟩ _ ?_).mono ?_
            · have := size_list (s.extract k s.size); rw [Lib.extract_to_end, List.length_drop, HL.out] at this; omega
            rw [Lib.extract_to_end]
            unfold NextQ
            rw [show (⟨#[39, 34, 92]⟩ : ByteArray).data.toList = sgU.data.toList from rfl, HNN.out]
            rintro e w2 ⟨rfl, d, rfl⟩
            rw [HBN.out]
            generalize UInt8.ofNat b = B at *
            go_wp2_with (at_builtin; refine wpList_append_lies _ rfl _ _ _ rfl w.heap.size 5 i0 _ 1 1 Tryd.underlying158 hi0 hz0 hz1 hz2 rfl (by omega) (.slice V m cp) m _ rfl (hown.alloc _) ⟨wr.heap.size, 0, none⟩ 1 1 [.int .u8 B.toNat] rfl rfl (World.news_of_block (cs := #[.int .u8 B.toNat]) (t := 5) (fr := (0, 0)) (heap_alloc_new wr _)) (by simp [Value.oneCell']) (by omega) (by unfold maxLen; omega) (by omega) (by simp; omega) (wr.heap.size + 1) (by simp) ?_; intro gg cap w1 hown1 hgrow hat hlt)
            go_roundw
            case rel => exact ⟨k + n, m + 1, f', acc ++ [B], _, cap, by omega, by omega, by omega, by go_num, rfl, by rw [u8s_append]; exact hown1, by omega, HREL.out, below_app (below_drewN (hbw.alloc hsz _) _) (hown.alloc _) hgrow (by simp; omega) (Nat.le_refl _)⟩
            case measure => simp [intOf]; omega
      · obtain rfl : k = s.size := by omega
        clear hun
        go_wp2
        go_ret3
        exact ⟨rfl, hbw⟩
end Go.Proofs.YtndhbdbfjkmloaaDoor
