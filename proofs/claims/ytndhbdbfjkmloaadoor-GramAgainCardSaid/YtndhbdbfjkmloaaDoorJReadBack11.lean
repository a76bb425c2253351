/- Blanks and remarks ahead and behind say nothing: plain. The reader's other small steps: Names, begins, Over, Bad, End, New. The reader's four rules: what they leave. -/
import Derived.Test.YtndhbdbfjkmloaaDoorJReadBack6
import Derived.Test.YtndhbdbfjkmloaaDoorJReadBack5
import Derived.Test.YtndhbdbfjkmloaaDoorJReadBack10
import Derived.Deep.LoopGhost
namespace Go.Proofs.YtndhbdbfjkmloaaDoor
open Go.RowKit

/-- a new line and a remark -/
def sufR : List UInt8 := [10, 32, 35, 32, 39]
def extL (l : List UInt8) : List UInt8 := if l = [] then [] else l ++ sufR
theorem ext_nil : extL [] = [] := rfl
theorem ext_ne {l : List UInt8} (h : l ≠ []) : extL l = l ++ sufR := if_neg h
theorem ext_cons (c : UInt8) (l : List UInt8) : extL (c :: l) = c :: (l ++ sufR) := by rw [ext_ne (by simp)]; rfl
theorem skip_ext : ∀ (b : Bool) (l : List UInt8), skipL b (l ++ sufR) = extL (skipL b l)
  | false, [] => by decide
  | true, [] => by decide
  | false, c :: l => by
    have h1 := skip_ext false l
    have h2 := skip_ext true l
    rw [List.cons_append, skipL, skipL]
    split
    · exact h1
    · split
      · exact h2
      · rw [ext_cons]
  | true, c :: l => by
    have h1 := skip_ext false l
    have h2 := skip_ext true l
    rw [List.cons_append, skipL, skipL]
    split
    · exact h1
    · exact h2
theorem bt_past {l r : List UInt8} {i : Nat} (h : l.length ≤ i) : bt (l ++ r) i = bt r (i - l.length) := by
  unfold bt
  rw [List.getD_eq_getElem?_getD, List.getD_eq_getElem?_getD, List.getElem?_append_right h]
theorem hex_suf : ∀ i, hexI (bt sufR i) < 0 := by
  intro i
  match i with
  | 0 => decide
  | 1 => decide
  | 2 => decide
  | 3 => decide
  | 4 => decide
  | i + 5 => 
    have : bt sufR (i + 5) = 0 := by unfold bt sufR; rfl
    rw [this]
    decide
/-- what can't be read can't be read still -/
theorem next_ext {sg l : List UInt8} (h10 : (10 : UInt8) ∉ sg) (hl : l ≠ []) (h : (nextN sg l).2 = 0) : (nextN sg (l ++ sufR)).2 = 0 := by
  have h1 : 0 < l.length := List.length_pos_iff.2 hl
  have e0 := bt_app (r := sufR) h1
  by_cases h92 : bt l 0 = 92
  · by_cases h2 : l.length < 2
    · have hlen : l.length = 1 := by omega
      have e1 : bt (l ++ sufR) 1 = 10 := by rw [bt_past (by omega), hlen]; rfl
      unfold nextN
      rw [if_neg (by rw [e0]; simpa using h92), if_neg (by rw [List.length_append, hlen]; decide), e1, if_neg (by decide), if_neg (by decide), if_neg (by exact h10), if_neg (by omega)]
    · have e1 := bt_app (r := sufR) (show 1 < l.length by omega)
      unfold nextN at h ⊢
      rw [if_neg (by simpa using h92), if_neg h2] at h
      rw [if_neg (by rw [e0]; simpa using h92), if_neg (by rw [List.length_append]; omega), e1]
      split at h
      · cases h
      · rename_i a
        rw [if_neg a]
        split at h
        · cases h
        · rename_i b
          rw [if_neg b]
          split at h
          · cases h
          · rename_i c
            rw [if_neg c]
            by_cases d : bt l 1 = 120 ∧ 4 ≤ l.length
            · have e2 := bt_app (r := sufR) (show 2 < l.length by omega)
              have e3 := bt_app (r := sufR) (show 3 < l.length by omega)
              rw [if_pos d] at h
              rw [if_pos ⟨d.1, by rw [List.length_append]; omega⟩, e2, e3]
              split at h
              · cases h
              · rename_i x
                rw [if_neg x]
            · split
              · rename_i d2
                have hlen : l.length < 4 := by
                  rcases Nat.lt_or_ge l.length 4 with x | x
                  · exact x
                  · exact absurd ⟨d2.1, x⟩ d
                have h3 : hexI (bt (l ++ sufR) 3) < 0 := by rw [bt_past (by omega)]; exact hex_suf _
                rw [if_neg (by omega)]
              · rfl
  · unfold nextN at h ⊢
    rw [if_pos h92] at h
    rw [e0, if_pos h92]
    split at h
    · rename_i x; rw [if_pos x]
    · cases h
theorem drop_ext {l : List UInt8} {n : Nat} (h : n ≤ l.length) : (l ++ sufR).drop n = l.drop n ++ sufR := List.drop_append_of_le_length h
theorem unl_none_suf {q : Nat} (hq : q ≠ 10) (sg : List UInt8) : ∀ f, unl q sg f sufR = none
  | 0 => rfl
  | f + 1 => by
    rw [unl_step _ _ _ (by decide), if_neg (by show ¬ (10 : Nat) = q; omega), if_pos (by show (nextN sg sufR).2 = 0; unfold nextN; rw [if_pos (by decide), if_pos (by decide)])]
theorem unl_none {q : Nat} (hq : q ≠ 10) {sg : List UInt8} (h10 : (10 : UInt8) ∉ sg) : ∀ (f f' : Nat) (l : List UInt8), l.length < f → unl q sg f l = none → unl q sg f' (l ++ sufR) = none
  | 0, _, l, h, _ => absurd h (by omega)
  | f + 1, 0, l, _, _ => rfl
  | f + 1, f' + 1, l, hf, h => by
    by_cases hl : l = []
    · subst hl
      exact unl_none_suf hq sg (f' + 1)
    · have h0 := bt_app (r := sufR) (List.length_pos_iff.2 hl)
      rw [unl_step _ _ _ hl] at h
      rw [unl_step _ _ _ (by simp [hl]), h0]
      split at h
      · cases h
      · rename_i hb
        rw [if_neg hb]
        split at h
        · rename_i hn
          rw [if_pos (next_ext h10 hl hn)]
        · rename_i hn
          have hnx := nextN_app (r := sufR) hn hl
          have hbd := (nextN_bd sg l hl).1
          rw [hnx, if_neg hn, drop_ext hbd, unl_none hq h10 f f' _ (by rw [List.length_drop]; omega) (Option.map_eq_none_iff.1 h)]
          rfl
theorem unl_some {q : Nat} {sg : List UInt8} (r : List UInt8) : ∀ (f f' : Nat) (l : List UInt8) (x : List UInt8 × Nat), f ≤ f' → unl q sg f l = some x → unl q sg f' (l ++ r) = some x
  | 0, _, _, _, _, h => by cases h
  | f + 1, 0, _, _, hf, _ => absurd hf (by omega)
  | f + 1, f' + 1, l, x, hf, h => by
    by_cases hl : l = []
    · subst hl; cases h
    · have h0 := bt_app (r := r) (List.length_pos_iff.2 hl)
      rw [unl_step _ _ _ hl] at h
      rw [unl_step _ _ _ (by simp [hl]), h0]
      split at h
      · rename_i hb
        rw [if_pos hb]
        exact h
      · rename_i hb
        rw [if_neg hb]
        split at h
        · cases h
        · rename_i hn
          have hnx := nextN_app (r := r) hn hl
          have hbd := (nextN_bd sg l hl).1
          rw [hnx, if_neg hn, List.drop_append_of_le_length hbd]
          cases hu : unl q sg f (l.drop (nextN sg l).2) with
          | none => rw [hu] at h; cases h
          | some y =>
            rw [hu] at h
            rw [unl_some r f f' _ y (by omega) hu]
            exact h
theorem unc_none_suf (acc : List Nat) : ∀ f, unc f sufR acc = none
  | 0 => rfl
  | f + 1 => unc_zero f acc (by decide) (by decide) (by decide)
theorem unc_none : ∀ (f f' : Nat) (l : List UInt8) (acc : List Nat), l.length < f → unc f l acc = none → unc f' (l ++ sufR) acc = none
  | 0, _, l, _, h, _ => absurd h (by omega)
  | f + 1, 0, l, _, _, _ => rfl
  | f + 1, f' + 1, l, acc, hf, h => by
    by_cases hl : l = []
    · subst hl
      exact unc_none_suf acc (f' + 1)
    · have hpos := List.length_pos_iff.2 hl
      have h0 := bt_app (r := sufR) hpos
      have hl' : l ++ sufR ≠ [] := by simp [hl]
      by_cases h93 : bt l 0 = 93
      · rw [unc_end f acc hl h93] at h; cases h
      · by_cases hn : (nextN sgC l).2 = 0
        · exact unc_zero f' acc hl' (by rw [h0]; exact h93) (next_ext (by decide) hl hn)
        · have hnx := nextN_app (r := sufR) hn hl
          have hbd := (nextN_bd sgC l hl).1
          obtain ⟨b, n, hbn⟩ : ∃ b n, nextN sgC l = (b, n) := ⟨_, _, rfl⟩
          rw [hbn] at hn hnx hbd
          simp only at hn hbd
          rw [unc_step f acc hl h93 hbn hn] at h
          rw [unc_step f' acc hl' (by rw [h0]; exact h93) hnx hn, drop_ext hbd]
          generalize hr : l.drop n = r at h ⊢
          have hrl : r.length = l.length - n := by rw [← hr, List.length_drop]
          have hd1 : ∀ m, l.drop (n + m) = r.drop m := fun m => by rw [← hr, List.drop_drop]
          have hrec : ∀ r2 acc2, r2.length < f → unc f r2 acc2 = none → unc f' (r2 ++ sufR) acc2 = none := fun r2 acc2 => unc_none f f' r2 acc2
          by_cases hc : 1 < r.length ∧ bt r 0 = 45 ∧ bt r 1 ≠ 93
          · have e0 := bt_app (r := sufR) (show 0 < r.length by omega)
            have e1 := bt_app (r := sufR) (show 1 < r.length by omega)
            have hle : n + 1 ≤ l.length := by omega
            have hne : l.drop (n + 1) ≠ [] := by
              intro e
              have := congrArg List.length e
              rw [List.length_drop, List.length_nil] at this
              omega
            rw [if_pos hc] at h
            rw [if_pos ⟨by rw [List.length_append]; omega, by rw [e0]; exact hc.2.1, by rw [e1]; exact hc.2.2⟩, drop_ext hle]
            have hbd2 := (nextN_bd sgC _ hne).1
            rw [List.length_drop] at hbd2
            by_cases hn2 : (nextN sgC (l.drop (n + 1))).2 = 0
            · rw [if_pos (.inl (next_ext (by decide) hne hn2))]
            · rw [nextN_app (r := sufR) hn2 hne]
              split at h
              · rename_i hx
                rw [if_pos hx]
              · rename_i hx
                rw [if_neg hx, show n + 1 + (nextN sgC (l.drop (n + 1))).2 = n + 1 + (nextN sgC (l.drop (n + 1))).2 from rfl, drop_ext (by omega), hrec _ _ (by rw [List.length_drop]; omega) (Option.map_eq_none_iff.1 h)]
                rfl
          · rw [if_neg hc] at h
            have h2 := Option.map_eq_none_iff.1 h
            by_cases hs : r.length ≤ 1
            · match r, hs, hrl with
              | [], _, _ =>
                rw [if_neg (by decide), List.nil_append, unc_none_suf]
                rfl
              | [x], _, hrl =>
                by_cases hx : bt [x] 0 = 45
                · rw [if_pos ⟨by simp [sufR], hx, by show (10 : Nat) ≠ 93; decide⟩]
                  have hd : l.drop (n + 1) = [] := List.drop_of_length_le (by simp at hrl; omega)
                  have hlen : n + 1 ≤ l.length := by simp at hrl; omega
                  rw [drop_ext hlen, hd, List.nil_append, if_pos (.inl (by decide))]
                · rw [if_neg (by
                    rintro ⟨_, h3, _⟩
                    exact hx h3), hrec _ _ (by simp at hrl ⊢; omega) h2]
                  rfl
            · have e0 := bt_app (r := sufR) (show 0 < r.length by omega)
              have e1 := bt_app (r := sufR) (show 1 < r.length by omega)
              rw [if_neg (by rw [e0, e1]; rintro ⟨_, h3⟩; exact hc ⟨by omega, h3⟩), hrec _ _ (by omega) h2]
              rfl
theorem unc_some (r0 : List UInt8) : ∀ (f f' : Nat) (l : List UInt8) (acc : List Nat) (x : List Nat × Nat), f ≤ f' → unc f l acc = some x → unc f' (l ++ r0) acc = some x
  | 0, _, _, _, _, _, h => by cases h
  | f + 1, 0, _, _, _, hf, _ => absurd hf (by omega)
  | f + 1, f' + 1, l, acc, x, hf, h => by
    by_cases hl : l = []
    · subst hl; cases h
    · have hpos := List.length_pos_iff.2 hl
      have h0 := bt_app (r := r0) hpos
      have hl' : l ++ r0 ≠ [] := by simp [hl]
      by_cases h93 : bt l 0 = 93
      · rw [unc_end f acc hl h93] at h
        rw [unc_end f' acc hl' (by rw [h0]; exact h93)]
        exact h
      · by_cases hn : (nextN sgC l).2 = 0
        · rw [unc_zero f acc hl h93 hn] at h; cases h
        · have hnx := nextN_app (r := r0) hn hl
          have hbd := (nextN_bd sgC l hl).1
          obtain ⟨b, n, hbn⟩ : ∃ b n, nextN sgC l = (b, n) := ⟨_, _, rfl⟩
          rw [hbn] at hn hnx hbd
          simp only at hn hbd
          rw [unc_step f acc hl h93 hbn hn] at h
          rw [unc_step f' acc hl' (by rw [h0]; exact h93) hnx hn, List.drop_append_of_le_length hbd]
          generalize hr : l.drop n = r at h ⊢
          have hrl : r.length = l.length - n := by rw [← hr, List.length_drop]
          have hrec : ∀ r2 acc2 x, unc f r2 acc2 = some x → unc f' (r2 ++ r0) acc2 = some x := fun r2 acc2 x => unc_some r0 f f' r2 acc2 x (by omega)
          by_cases hc : 1 < r.length ∧ bt r 0 = 45 ∧ bt r 1 ≠ 93
          · have e0 := bt_app (r := r0) (show 0 < r.length by omega)
            have e1 := bt_app (r := r0) (show 1 < r.length by omega)
            have hle : n + 1 ≤ l.length := by omega
            have hne : l.drop (n + 1) ≠ [] := by
              intro e
              have := congrArg List.length e
              rw [List.length_drop, List.length_nil] at this
              omega
            rw [if_pos hc] at h
            rw [if_pos ⟨by rw [List.length_append]; omega, by rw [e0]; exact hc.2.1, by rw [e1]; exact hc.2.2⟩, List.drop_append_of_le_length hle]
            have hbd2 := (nextN_bd sgC _ hne).1
            rw [List.length_drop] at hbd2
            split at h
            · cases h
            · rename_i hx
              have hn2 : (nextN sgC (l.drop (n + 1))).2 ≠ 0 := fun e => hx (.inl e)
              rw [nextN_app (r := r0) hn2 hne, if_neg hx, List.drop_append_of_le_length (by omega)]
              generalize hu : unc f (l.drop (n + 1 + (nextN sgC (l.drop (n + 1))).2)) (orW acc (rangeL b ((nextN sgC (l.drop (n + 1))).1 + 1 - b))) = R at h
              cases R with
              | none => cases h
              | some y => rw [hrec _ _ _ hu]; exact h
          · rw [if_neg hc] at h
            generalize hu : unc f r (orW acc (rangeL b 1)) = R at h
            cases R with
            | none => cases h
            | some y =>
              have hpr : 0 < r.length := by
                cases r with
                | nil => rw [unc_nil] at hu; cases hu
                | cons => simp
              have e0 := bt_app (r := r0) hpr
              have hcn : ¬ (1 < (r ++ r0).length ∧ bt (r ++ r0) 0 = 45 ∧ bt (r ++ r0) 1 ≠ 93) := by
                rw [e0]
                rintro ⟨_, h4, h5⟩
                by_cases h1 : 1 < r.length
                · rw [bt_app (r := r0) h1] at h5
                  exact hc ⟨h1, h4, h5⟩
                · match r, hpr, h1, h4, hu with
                  | [z], _, _, h4, hu =>
                    cases f with
                    | zero => cases hu
                    | succ f =>
                      have hz : nextN sgC [z] = (45, 1) := by unfold nextN; rw [h4]; rfl
                      rw [unc_step f _ (by simp) (by rw [h4]; decide) hz (by decide)] at hu
                      simp only [List.drop_one, List.tail_cons, List.length_nil, Nat.not_lt_zero, false_and, if_false, unc_nil, Option.map_none] at hu
                      cases hu
                  | _ :: _ :: _, _, h1, _, _ => simp at h1
              rw [if_neg hcn, hrec _ _ _ hu]
              exact h
theorem nameL_ext : ∀ l : List UInt8, nameL (l ++ sufR) = nameL l
  | [] => by decide
  | c :: l => by
    rw [List.cons_append, nameL, nameL, nameL_ext l]
theorem tok_ext (l : List UInt8) : tokL (extL l) = tokL l := by
  cases l with
  | nil => rfl
  | cons c r =>
    rw [ext_cons]
    have hb0 : ∀ k, k ≠ 10 → k ≠ 0 → (bt (r ++ sufR) 0 = k ↔ bt r 0 = k) := fun k hk h0 => by
      cases r with
      | nil =>
        refine ⟨fun h => absurd h.symm hk, fun h => ?_⟩
        exact absurd h.symm h0
      | cons => exact Iff.rfl
    rw [tokL, tokL]
    by_cases h1 : c = 39 ∨ c = 34
    · rw [if_pos h1, if_pos h1]
      cases hu : unl c.toNat sgU.data.toList (r.length + 1) r with
      | none =>
        rw [unl_none (by rcases h1 with rfl | rfl <;> decide) (by decide) (r.length + 1) ((r ++ sufR).length + 1) r (by omega) hu]
      | some x =>
        rw [unl_some sufR (r.length + 1) ((r ++ sufR).length + 1) r x (by rw [List.length_append]; omega) hu]
    · rw [if_neg h1, if_neg h1]
      by_cases h2 : c = 91
      · rw [if_pos h2, if_pos h2]
        by_cases h3 : bt r 0 = 94
        · have hr := bt_ne_len h3 (by decide)
          rw [if_pos h3, if_pos ((hb0 94 (by decide) (by decide)).2 h3), drop_ext (by omega)]
          cases hu : unc (r.length + 2) (r.drop 1) [0, 0, 0, 0] with
          | none => rw [unc_none (r.length + 2) ((r ++ sufR).length + 2) _ _ (by rw [List.length_drop]; omega) hu]
          | some x => rw [unc_some sufR (r.length + 2) ((r ++ sufR).length + 2) _ _ x (by rw [List.length_append]; omega) hu]
        · rw [if_neg h3, if_neg (fun h => h3 ((hb0 94 (by decide) (by decide)).1 h))]
          cases hu : unc (r.length + 2) r [0, 0, 0, 0] with
          | none => rw [unc_none (r.length + 2) ((r ++ sufR).length + 2) _ _ (by omega) hu]
          | some x => rw [unc_some sufR (r.length + 2) ((r ++ sufR).length + 2) _ _ x (by rw [List.length_append]; omega) hu]
      · rw [if_neg h2, if_neg h2]
        by_cases h3 : c = 46
        · rw [if_pos h3, if_pos h3]
        · rw [if_neg h3, if_neg h3]
          split
          · rfl
          · by_cases h4 : c = 60 ∧ bt r 0 = 45
            · rw [if_pos h4, if_pos ⟨h4.1, (hb0 45 (by decide) (by decide)).2 h4.2⟩]
            · rw [if_neg h4, if_neg (fun h => h4 ⟨h.1, (hb0 45 (by decide) (by decide)).1 h.2⟩)]
              have e := nameL_ext (c :: r)
              rw [List.cons_append] at e
              rw [e]
              have ht : (c :: (r ++ sufR)).take (nameL (c :: r)) = (c :: r).take (nameL (c :: r)) := by
                rw [← List.cons_append, List.take_append_of_le_length (nameL_le _)]
              rw [ht]
theorem go_ext {l : List UInt8} {n : Nat} (hl : l ≠ []) (hn : n ≤ l.length) : goL (extL l) n = extL (goL l n) := by
  unfold goL
  rw [ext_ne hl, drop_ext hn, skip_ext]
def Rs.ext : Rs → Rs
  | .ok e l => .ok e (extL l)
  | .no l => .no (extL l)
theorem bindR_ext {x x' : Option Rs} {k k' : Ex → List UInt8 → Option Rs} {R : Rs} (hx : ∀ R, x = some R → x' = some R.ext) (hk : ∀ e l R, k e l = some R → k' e (extL l) = some R.ext) (h : bindR x k = some R) : bindR x' k' = some R.ext := by
  cases x with
  | none => cases h
  | some y =>
    rw [hx y rfl]
    cases y with
    | no l => injection h with h; subst h; rfl
    | ok e l => exact hk e l R h
theorem thenGo_ext {l : List UInt8} {n : Nat} (hl : l ≠ []) (hn : n ≤ l.length) {k k' : List UInt8 → Option Rs} {R : Rs} (hk : ∀ l R, k l = some R → k' (extL l) = some R.ext) (h : thenGo l n k = some R) : thenGo (extL l) n k' = some R.ext := by
  unfold thenGo at h ⊢
  rw [go_ext hl hn, tok_ext]
  split at h
  · rename_i hb
    rw [if_pos hb]
    injection h with h
    subst h
    rfl
  · rename_i hb
    rw [if_neg hb]
    exact hk _ _ h
theorem names_no (l : List UInt8) : namesL false l = false := by unfold namesL; split <;> rfl
theorem beg_ext (l : List UInt8) : begL false (extL l) = begL false l := by
  unfold begL
  rw [tok_ext, names_no, names_no]
theorem ne_of_tok {l : List UInt8} {n : Nat} (h1 : 1 ≤ n) (h : n ≤ l.length) : l ≠ [] := by
  rintro rfl
  simp at h
  omega
theorem rd_ext : ∀ (f : Nat) (j : Pj) (l : List UInt8) (R : Rs), rdJ false f j l = some R → rdJ false f j (extL l) = some R.ext := by
  intro f
  induction f with
  | zero => intro j l R hR; cases hR
  | succ f ih =>
    intro j l R hR
    cases j with
    | alt => rw [rdJ] at hR ⊢; exact bindR_ext (ih _ _) (fun _ _ => ih _ _) hR
    | altL acc =>
      rw [rdJ] at hR ⊢
      rw [tok_ext]
      cases ht : tokL l with
      | sg c n =>
        obtain ⟨h1, h2, _⟩ := tok_sgn ht
        rw [ht] at hR
        simp only at hR ⊢
        split at hR
        · rw [if_pos (by assumption)]
          exact thenGo_ext (ne_of_tok h1 h2) h2 (fun _ _ h => bindR_ext (ih _ _) (fun _ _ => ih _ _) h) hR
        · rw [if_neg (by assumption)]; injection hR with hR; subst hR; rfl
      | _ => rw [ht] at hR; injection hR with hR; subst hR; rfl
    | seq => rw [rdJ] at hR ⊢; exact bindR_ext (ih _ _) (fun _ _ => ih _ _) hR
    | seqL acc =>
      rw [rdJ] at hR ⊢
      rw [beg_ext]
      split at hR
      · rw [if_pos (by assumption)]; exact bindR_ext (ih _ _) (fun _ _ => ih _ _) hR
      · rw [if_neg (by assumption)]; injection hR with hR; subst hR; rfl
    | pre =>
      rw [rdJ] at hR ⊢
      rw [tok_ext]
      cases ht : tokL l with
      | sg c n =>
        obtain ⟨h1, h2, _⟩ := tok_sgn ht
        rw [ht] at hR
        simp only at hR ⊢
        split at hR
        · rw [if_pos (by assumption)]
          exact thenGo_ext (ne_of_tok h1 h2) h2 (fun _ _ h => bindR_ext (ih _ _) (fun _ _ _ h => by injection h with h; subst h; rfl) h) hR
        · rw [if_neg (by assumption)]; exact bindR_ext (ih _ _) (fun _ _ => ih _ _) hR
      | _ => rw [ht] at hR; exact bindR_ext (ih _ _) (fun _ _ => ih _ _) hR
    | post e =>
      rw [rdJ] at hR ⊢
      rw [tok_ext]
      cases ht : tokL l with
      | sg c n =>
        obtain ⟨h1, h2, _⟩ := tok_sgn ht
        rw [ht] at hR
        simp only at hR ⊢
        split at hR
        · rw [if_pos (by assumption)]
          exact thenGo_ext (ne_of_tok h1 h2) h2 (fun _ => ih _ _) hR
        · rw [if_neg (by assumption)]; injection hR with hR; subst hR; rfl
      | _ => rw [ht] at hR; injection hR with hR; subst hR; rfl
    | pri =>
      rw [rdJ] at hR ⊢
      rw [beg_ext]
      split at hR
      · rw [if_pos (by assumption), tok_ext]
        have hclose : ∀ (e : Ex) (l2 : List UInt8) (R : Rs), (match tokL l2 with
            | .sg c2 n2 => if c2 = 41 then thenGo l2 n2 fun l3 => some (.ok e l3) else some (.no l2)
            | _ => some (.no l2)) = some R → (match tokL (extL l2) with
            | .sg c2 n2 => if c2 = 41 then thenGo (extL l2) n2 fun l3 => some (.ok e l3) else some (.no (extL l2))
            | _ => some (.no (extL l2))) = some R.ext := fun e l2 R h => by
          rw [tok_ext]
          cases ht2 : tokL l2 with
          | sg c2 n2 =>
            obtain ⟨q1, q2, _⟩ := tok_sgn ht2
            rw [ht2] at h
            simp only at h ⊢
            split at h
            · rw [if_pos (by assumption)]
              exact thenGo_ext (ne_of_tok q1 q2) q2 (fun _ _ h => by injection h with h; subst h; rfl) h
            · rw [if_neg (by assumption)]; injection h with h; subst h; rfl
          | _ => rw [ht2] at h; injection h with h; subst h; rfl
        cases ht : tokL l with
        | nd e n =>
          obtain ⟨h1, h2, _⟩ := tok_nd ht
          rw [ht] at hR
          exact thenGo_ext (ne_of_tok h1 h2) h2 (fun _ _ h => by injection h with h; subst h; rfl) hR
        | sg c n =>
          obtain ⟨h1, h2, _⟩ := tok_sgn ht
          rw [ht] at hR
          simp only at hR ⊢
          split at hR
          · rw [if_pos (by assumption)]
            refine thenGo_ext (ne_of_tok h1 h2) h2 (fun l1 R h => ?_) hR
            rw [tok_ext]
            cases ht1 : tokL l1 with
            | sg c1 n1 =>
              obtain ⟨q1, q2, _⟩ := tok_sgn ht1
              rw [ht1] at h
              simp only at h ⊢
              split at h
              · rw [if_pos (by assumption)]
                exact thenGo_ext (ne_of_tok q1 q2) q2 (fun _ _ h => by injection h with h; subst h; rfl) h
              · rw [if_neg (by assumption)]; exact bindR_ext (ih _ _) (hclose) h
            | _ => rw [ht1] at h; exact bindR_ext (ih _ _) (hclose) h
          · rw [if_neg (by assumption)]; injection hR with hR; subst hR; rfl
        | _ => rw [ht] at hR; injection hR with hR; subst hR; rfl
      · rw [if_neg (by assumption)]; injection hR with hR; subst hR; rfl

/-! a whole text -/
def Tok.isFin : Tok → Bool | .fin => true | _ => false
/-- what a whole text is read as -/
def Whole (s : List UInt8) (x : Rs) : Prop :=
  ((tokL (skipL false s)).isBad = true ∧ x = .no (skipL false s)) ∨
  ((tokL (skipL false s)).isBad = false ∧ ∃ R, Rd false .alt (skipL false s) R ∧ ((∃ l', R = .no l' ∧ x = .no l') ∨ ∃ e l', R = .ok e l' ∧ (((tokL l').isFin = true ∧ x = .ok e l') ∨ ((tokL l').isFin = false ∧ x = .no l'))))
theorem whole_ex (s : List UInt8) : ∃ x, Whole s x := by
  cases hb : (tokL (skipL false s)).isBad with
  | true => exact ⟨_, .inl ⟨hb, rfl⟩⟩
  | false =>
    obtain ⟨R, hR, _⟩ := rd_ends false .alt (skipL false s)
    cases R with
    | no l' => exact ⟨_, .inr ⟨hb, _, hR, .inl ⟨l', rfl, rfl⟩⟩⟩
    | ok e l' =>
      cases hf : (tokL l').isFin with
      | true => exact ⟨_, .inr ⟨hb, _, hR, .inr ⟨e, l', rfl, .inl ⟨hf, rfl⟩⟩⟩⟩
      | false => exact ⟨_, .inr ⟨hb, _, hR, .inr ⟨e, l', rfl, .inr ⟨hf, rfl⟩⟩⟩⟩
theorem Whole.uniq {s : List UInt8} {x y : Rs} (h : Whole s x) (h' : Whole s y) : x = y := by
  rcases h with ⟨h1, rfl⟩ | ⟨h1, R, hR, h2⟩
  · rcases h' with ⟨_, rfl⟩ | ⟨h3, _⟩
    · rfl
    · rw [h1] at h3; cases h3
  · rcases h' with ⟨h3, _⟩ | ⟨_, R', hR', h4⟩
    · rw [h1] at h3; cases h3
    · obtain rfl := hR.uniq hR'
      rcases h2 with ⟨l, rfl, rfl⟩ | ⟨e, l, rfl, h2⟩
      · rcases h4 with ⟨l', h5, rfl⟩ | ⟨e', l', h5, _⟩
        · injection h5 with h5; rw [h5]
        · cases h5
      · rcases h4 with ⟨l', h5, _⟩ | ⟨e', l', h5, h4⟩
        · cases h5
        · injection h5 with h5 h6
          subst h5 h6
          rcases h2 with ⟨h7, rfl⟩ | ⟨h7, rfl⟩ <;> rcases h4 with ⟨h8, rfl⟩ | ⟨h8, rfl⟩
          · rfl
          · rw [h7] at h8; cases h8
          · rw [h7] at h8; cases h8
          · rfl
theorem fin_nil {l : List UInt8} (h : (tokL l).isFin = true) : l = [] := by
  have := tok_b l
  cases ht : tokL l with
  | fin => rw [ht] at this; cases this with | fin h => exact h
  | bad => rw [ht] at h; cases h
  | nd e n => rw [ht] at h; cases h
  | sg c n => rw [ht] at h; cases h
/-- " \t# ( \n" -/
def preR : List UInt8 := [32, 9, 35, 32, 40, 32, 10]
theorem skip_pre (l : List UInt8) : skipL false (preR ++ l) = skipL false l := by
  show skipL false (32 :: 9 :: 35 :: 32 :: 40 :: 32 :: 10 :: l) = _
  rw [skipL, if_pos (by decide), skipL, if_pos (by decide), skipL, if_neg (by decide), if_pos rfl, skipL, if_neg (by decide), skipL, if_neg (by decide), skipL, if_neg (by decide), skipL, if_pos rfl]
/-- blanks and remarks ahead and behind say nothing -/
theorem whole_blanks {s : List UInt8} {x : Rs} (h : Whole s x) : Whole (preR ++ (s ++ sufR)) x.ext := by
  have e : skipL false (preR ++ (s ++ sufR)) = extL (skipL false s) := by rw [skip_pre, skip_ext]
  unfold Whole
  rw [e, tok_ext]
  rcases h with ⟨h1, rfl⟩ | ⟨h1, R, ⟨f, hR⟩, h2⟩
  · exact .inl ⟨h1, rfl⟩
  · refine .inr ⟨h1, R.ext, ⟨f, rd_ext f _ _ R hR⟩, ?_⟩
    rcases h2 with ⟨l', rfl, rfl⟩ | ⟨e, l', rfl, h2⟩
    · exact .inl ⟨_, rfl, rfl⟩
    · refine .inr ⟨e, _, rfl, ?_⟩
      rw [tok_ext]
      rcases h2 with ⟨h3, rfl⟩ | ⟨h3, rfl⟩
      · exact .inl ⟨h3, rfl⟩
      · exact .inr ⟨h3, rfl⟩
/-- what was printed is read as it was, as a whole text -/
theorem whole_print {e : Ex} (he : Rtx e) : Whole (txE e) (.ok e []) := by
  obtain ⟨h1, h2, h3⟩ := rd_back he false
  have hs : skipL false (txE e) = txE e := h2
  unfold Whole
  rw [hs]
  exact .inr ⟨(beg_what h3).1, _, h1, .inr ⟨e, [], rfl, .inl ⟨rfl, rfl⟩⟩⟩
theorem whole_wf {s : List UInt8} {e : Ex} {l : List UInt8} (h : Whole s (.ok e l)) : WfE e ∧ l = [] := by
  rcases h with ⟨_, h⟩ | ⟨_, R, ⟨f, hR⟩, h⟩
  · cases h
  · rcases h with ⟨l', _, h⟩ | ⟨e', l', rfl, ⟨h1, h2⟩ | ⟨_, h2⟩⟩
    · cases h
    · injection h2 with h2 h3
      subst h2 h3
      exact ⟨rd_wf false f .alt _ _ _ trivial hR, fin_nil h1⟩
    · cases h2
end Go.Proofs.YtndhbdbfjkmloaaDoor
namespace Go.Proofs.YtndhbdbfjkmloaaDoor
open Go.RowKit

theorem prefix2 (l : List UInt8) : ([60, 45] : List UInt8).isPrefixOf l = decide (l.take 2 = [60, 45]) := by
  match l with
  | [] => rfl
  | [a] =>
    rw [show decide ([a].take 2 = [60, 45]) = false from decide_eq_false (by simp)]
    show (((60 : UInt8) == a) && false) = false
    simp
  | a :: b :: r =>
    show (((60 : UInt8) == a) && (((45 : UInt8) == b) && true)) = decide ([a, b] = [60, 45])
    by_cases h1 : a = 60
    · by_cases h2 : b = 45
      · subst h1 h2; rfl
      · have : ((45 : UInt8) == b) = false := by rw [beq_eq_false_iff_ne]; exact fun e => h2 e.symm
        rw [this, decide_eq_false (fun e => h2 (by injection e with _ e; injection e))]
        simp
    · have : ((60 : UInt8) == a) = false := by rw [beq_eq_false_iff_ne]; exact fun e => h1 e.symm
      rw [this, decide_eq_false (fun e => h1 (by injection e))]
      simp
set_option maxRecDepth 100000 in
set_option maxHeartbeats 4000000 in
theorem names_any (s : ByteArray) (hs : s.size ≤ 100000) (h : Bool) (rb : Nat) (l : List UInt8) (w : World) (H : RdAt s h rb l w) :
    Calls Tryd.prog 67 #[.pointer (some ⟨rb, 0, none⟩)] w fun e w' => e = .returned (.bool (namesL h l)) ∧ Below w.heap.size w w' := by
  obtain ⟨hp1, hp2, hp3⟩ := H.pos
  have hn := tkn_le l
  have hb := H.blk
  rw [rdC_get] at hb
  have x0 := hb.cell 0
  have x1 := hb.cell 1
  have x3 := hb.cell 3
  have x4 := hb.cell 4
  have x5 := hb.cell 5
  have hi0 : posL s l + tkn (tokL l) ≤ s.size := by omega
  have hg : goL l (tkn (tokL l)) = skipL false (s.data.toList.drop (posL s l + tkn (tokL l))) := by
    unfold goL
    rw [← List.drop_drop, ← hp2]
  have hv : (tkV (tokL l)).n = tkn (tokL l) := rfl
  rw [hv] at x3
  by_cases hh : h = true
  · subst hh
    cases ht : tokL l with
    | nd e n =>
      obtain ⟨k, a, b, c, d, t, ks⟩ := e
      have hnn : tkn (tokL l) = n := by rw [ht]; rfl
      rw [ht] at x4 x5
      have x4' : w.cell? ⟨rb, 4, none⟩ = some (.bool true) := x4
      have x5' : w.cell? ⟨rb, 5, none⟩ = some (.int .i64 k) := x5
      have hr : namesL true l = (decide (k = 4) && decide ((goL l n).take 2 = [60, 45])) := by unfold namesL; rw [ht]; rfl
      rw [hr]
      rw [hnn] at x3 hi0 hg
      by_cases hk : k = 4
      · have hk1 : (k != 4) = false := by rw [hk]; rfl
        rw [decide_eq_true hk, Bool.true_and]
        have HSK := Lib.hid (fun (W : World) (hW : Below w.heap.size w W) => skip_any s (by omega) rb (posL s l + n) hi0 W ((hW.cell (p := ⟨rb, 0, none⟩) H.blk.lt).trans x0))
        obtain ⟨m, hm, hd⟩ := skip_drop false (s.data.toList.drop (posL s l + n))
        rw [List.length_drop, size_list] at hm
        rw [List.drop_drop] at hd
        have hpp : posL s (skipL false (s.data.toList.drop (posL s l + n))) = posL s l + n + m := by rw [hd]; exact posL_drop (by omega)
        rw [hpp] at HSK
        have hpl : posL s l + n + m ≤ s.size := by omega
        have hu : (s.extract (posL s l + n + m) s.size).data.toList = goL l n := by rw [Lib.extract_to_end, hg, hd]
        have HPX : Hid (∀ W, Calls Tryd.prog 93 #[.string (s.extract (posL s l + n + m) s.size), .string ⟨#[60, 45]⟩] W fun e w' => e = .returned (.bool (decide ((goL l n).take 2 = [60, 45]))) ∧ Below W.heap.size W w') := fun W => by
          have := hasPrefix_any (s.extract (posL s l + n + m) s.size) ⟨#[60, 45]⟩ W
          rw [hu] at this
          rw [← prefix2]
          exact this
        clear hr hg hd hm hpp hu hn hp1 hp2 hp3 hb x4 x5 hnn ht hv
        generalize posL s l + n + m = p at HSK HPX hpl
        generalize decide ((goL l n).take 2 = [60, 45]) = r at HPX ⊢
        generalize posL s l + n = i0 at HSK x3 hi0
        have hlt := H.blk.lt
        clear H
        go_enter Tryd.func67, Tryd.ntmps67
        go_wp2_with fail
        refine wp_region_q (fun W => Below w.heap.size w W) (by kernel_rfl) (by kernel_rfl) (Below.refl _ _).drew ?_
        repeat
          (first | ((with_reducible apply QW.free rfl); · (intro W hW; have g0 := (hW.cell (p := ⟨rb, 0, none⟩) hlt).trans x0; have g3 := (hW.cell (p := ⟨rb, 3, none⟩) hlt).trans x3; go_simp; first | (go_at_call 94; refine (HSK.out _ hW).mono ?_; rintro e w' ⟨rfl, rfl⟩; exact ⟨rfl, hW⟩) | (go_at_call 93; refine (HPX.out _).mono ?_; rintro e w' ⟨rfl, hbb⟩; exact ⟨rfl, hW.trans (hbb.mono hW.size)⟩) | rfl)) | ((with_reducible apply QW.skip rfl); · (first | exact ⟨_, _, rfl, rfl, .inl rfl⟩ | exact ⟨_, _, rfl, rfl, .inr rfl⟩)) | ((with_reducible apply QW.take rfl); (· exact ⟨_, rfl, rfl⟩); (· (intro W hW; have g0 := (hW.cell (p := ⟨rb, 0, none⟩) hlt).trans x0; have g3 := (hW.cell (p := ⟨rb, 3, none⟩) hlt).trans x3; go_simp; first | (go_at_call 94; refine (HSK.out _ hW).mono ?_; rintro e w' ⟨rfl, rfl⟩; exact ⟨rfl, hW⟩) | (go_at_call 93; refine (HPX.out _).mono ?_; rintro e w' ⟨rfl, hbb⟩; exact ⟨rfl, hW.trans (hbb.mono hW.size)⟩) | rfl)))); (try simp only [Act.put, List.setIfInBounds_toArray, List.set_cons_zero, List.set_cons_succ])
        refine QW.nil ?_
        intro w1 q1
        go_wp2
        go_ret
        exact ⟨rfl, q1⟩
      · have hk1 : (k != 4) = true := by rw [bne_iff_ne]; exact hk
        rw [decide_eq_false hk, Bool.false_and]
        clear hb x4 x5 hp1 hp2 hp3 hg hr hn hv hnn ht hi0 x3 H
        go_enter Tryd.func67, Tryd.ntmps67
        go_wp2
        go_ret
        exact ⟨rfl, Below.refl _ _⟩
    | _ =>
      have hr : namesL true l = false := by unfold namesL; rw [ht]
      rw [hr]
      rw [ht] at x4
      have x4' : w.cell? ⟨rb, 4, none⟩ = some (.bool false) := x4
      clear hb x4 x5 hp1 hp2 hp3 hg hr hn hv ht hi0 x3 H
      go_enter Tryd.func67, Tryd.ntmps67
      go_wp2
      go_ret
      exact ⟨rfl, Below.refl _ _⟩
  · have hh' : h = false := by simpa using hh
    subst hh'
    rw [names_no]
    clear hb x4 x5 hp1 hp2 hp3 hg hn hv hi0 x3 H
    go_enter Tryd.func67, Tryd.ntmps67
    go_wp2
    go_ret
    exact ⟨rfl, Below.refl _ _⟩
/-- the sign's number, as the reader holds it -/
theorem sg_facts {l : List UInt8} {c n : Nat} (h : tokL l = .sg c n) : (tkV (tokL l)).sg = c ∧ (tkV (tokL l)).nd = false := by rw [h]; exact ⟨rfl, rfl⟩
theorem nat_beq (c k : Nat) : ((c : Int) == (k : Int)) = decide (c = k) := by
  by_cases h : c = k
  · subst h; simp
  · rw [decide_eq_false h, beq_eq_false_iff_ne]; omega
set_option maxRecDepth 100000 in
set_option maxHeartbeats 4000000 in
theorem begins_any (s : ByteArray) (hs : s.size ≤ 100000) (h : Bool) (rb : Nat) (l : List UInt8) (w : World) (H : RdAt s h rb l w) :
    Calls Tryd.prog 119 #[.pointer (some ⟨rb, 0, none⟩)] w fun e w' => e = .returned (.bool (begL h l)) ∧ Below w.heap.size w w' := by
  have hb := H.blk
  have HG := H.good
  have hlt := hb.lt
  rw [rdC_get] at hb
  have HN := Lib.hid (names_any s hs h rb l w H)
  have x4 := hb.cell 4
  have x12 := hb.cell 12
  have hb0 : begL h l = match tokL l with
    | .nd _ _ => !namesL h l
    | .sg c _ => decide (c = 40 ∨ c = 38 ∨ c = 33)
    | _ => false := rfl
  cases ht : tokL l with
  | bad => rw [ht] at HG; cases HG
  | fin =>
    rw [ht] at x4 x12 hb0
    have x4' : w.cell? ⟨rb, 4, none⟩ = some (.bool false) := x4
    have x12' : w.cell? ⟨rb, 12, none⟩ = some (.int .u8 0) := x12
    rw [hb0]
    clear x4 x12 hb hb0 H
    go_enter Tryd.func119, Tryd.ntmps119
    go_wp2
    go_ret
    exact ⟨rfl, Below.refl _ _⟩
  | nd e n =>
    obtain ⟨k, a, b, c, d, t, ks⟩ := e
    rw [ht] at x4 x12 hb0
    have x4' : w.cell? ⟨rb, 4, none⟩ = some (.bool true) := x4
    have x12' : w.cell? ⟨rb, 12, none⟩ = some (.int .u8 0) := x12
    rw [hb0]
    clear x4 x12 hb hb0 H
    generalize namesL h l = r at HN ⊢
    cases r
    all_goals
      go_enter Tryd.func119, Tryd.ntmps119
      go_wp2_with fail
      refine HN.out.mono ?_
      rintro e w1 ⟨rfl, hb1⟩
      have y12 : w1.cell? ⟨rb, 12, none⟩ = some (.int .u8 0) := (hb1.cell (p := ⟨rb, 12, none⟩) hlt).trans x12'
      go_wp2
      go_ret
      exact ⟨rfl, hb1⟩
  | sg c n =>
    rw [ht] at x4 x12 hb0
    have x4' : w.cell? ⟨rb, 4, none⟩ = some (.bool false) := x4
    have x12' : w.cell? ⟨rb, 12, none⟩ = some (.int .u8 (c : Int)) := x12
    have hb1 : begL h l = decide (c = 40 ∨ c = 38 ∨ c = 33) := hb0
    rw [hb1]
    clear x4 x12 hb hb0 hb1 H
    by_cases h1 : c = 40
    · have e1 : ((c : Int) == 40) = true := by rw [h1]; rfl
      rw [decide_eq_true (show c = 40 ∨ c = 38 ∨ c = 33 from .inl h1)]
      go_enter Tryd.func119, Tryd.ntmps119
      go_wp2
      go_ret
      exact ⟨rfl, Below.refl _ _⟩
    · have e1 : ((c : Int) == 40) = false := by rw [beq_eq_false_iff_ne]; omega
      by_cases h2 : c = 38
      · have e2 : ((c : Int) == 38) = true := by rw [h2]; rfl
        rw [decide_eq_true (show c = 40 ∨ c = 38 ∨ c = 33 from .inr (.inl h2))]
        go_enter Tryd.func119, Tryd.ntmps119
        go_wp2
        go_ret
        exact ⟨rfl, Below.refl _ _⟩
      · have e2 : ((c : Int) == 38) = false := by rw [beq_eq_false_iff_ne]; omega
        obtain ⟨r, hr⟩ : ∃ r, decide (c = 33) = r := ⟨_, rfl⟩
        have e3 : ((c : Int) == 33) = r := by rw [← hr]; exact nat_beq c 33
        have e4 : decide (c = 40 ∨ c = 38 ∨ c = 33) = r := by rw [← hr]; simp [h1, h2]
        rw [e4]
        clear e4 hr
        go_enter Tryd.func119, Tryd.ntmps119
        go_wp2
        go_ret
        exact ⟨rfl, Below.refl _ _⟩
set_option maxRecDepth 100000 in
set_option maxHeartbeats 4000000 in
theorem over_any (s : ByteArray) (h : Bool) (rb : Nat) (l : List UInt8) (w : World) (H : RdAt s h rb l w) :
    Calls Tryd.prog 70 #[.pointer (some ⟨rb, 0, none⟩)] w fun e w' => e = .returned (.bool (tokL l).isFin) ∧ w' = w := by
  have hb := H.blk
  have HG := H.good
  rw [rdC_get] at hb
  have x4 := hb.cell 4
  have x12 := hb.cell 12
  cases ht : tokL l with
  | bad => rw [ht] at HG; cases HG
  | fin =>
    rw [ht] at x4 x12
    have x4' : w.cell? ⟨rb, 4, none⟩ = some (.bool false) := x4
    have x12' : w.cell? ⟨rb, 12, none⟩ = some (.int .u8 0) := x12
    clear x4 x12 hb H
    go_enter Tryd.func70, Tryd.ntmps70
    go_wp2
    go_ret
    exact ⟨rfl, rfl⟩
  | nd e n =>
    obtain ⟨k, a, b, c, d, t, ks⟩ := e
    rw [ht] at x4 x12
    have x4' : w.cell? ⟨rb, 4, none⟩ = some (.bool true) := x4
    clear x4 x12 hb H
    go_enter Tryd.func70, Tryd.ntmps70
    go_wp2
    go_ret
    exact ⟨rfl, rfl⟩
  | sg c n =>
    have hc := (tok_sgn ht).2.2.1
    rw [ht] at x4 x12
    have x4' : w.cell? ⟨rb, 4, none⟩ = some (.bool false) := x4
    have x12' : w.cell? ⟨rb, 12, none⟩ = some (.int .u8 (c : Int)) := x12
    have e1 : ((c : Int) == 0) = false := by rw [beq_eq_false_iff_ne]; omega
    clear x4 x12 hb H hc
    go_enter Tryd.func70, Tryd.ntmps70
    go_wp2
    go_ret
    exact ⟨rfl, rfl⟩
set_option maxRecDepth 100000 in
theorem badR_any (s : ByteArray) (h : Bool) (rb : Nat) (l : List UInt8) (w : World) (H : RdAt s h rb l w) :
    Calls Tryd.prog 68 #[.pointer (some ⟨rb, 0, none⟩)] w fun e w' => e = .panicked [{ v := faultV (posL s l), recovered := false }] ∧ w' = w := by
  have hb := H.blk
  rw [rdC_get] at hb
  have x2 := hb.cell 2
  generalize posL s l = p at x2 ⊢
  clear hb H
  go_enter Tryd.func68, Tryd.ntmps68
  go_wp2_with fail
  refine (bad_any p _).mono ?_
  rintro e w1 ⟨rfl, rfl⟩
  go_wp2
  exact ⟨rfl, rfl, rfl⟩
set_option maxRecDepth 100000 in
theorem end_any (s : ByteArray) (h : Bool) (rb : Nat) (l : List UInt8) (w : World) (H : RdAt s h rb l w) :
    Calls Tryd.prog 64 #[.pointer (some ⟨rb, 0, none⟩)] w fun e w' => w' = w ∧ (((tokL l).isFin = true ∧ e = .returned (.tuple #[])) ∨ ((tokL l).isFin = false ∧ e = .panicked [{ v := faultV (posL s l), recovered := false }])) := by
  have HO := Lib.hid (over_any s h rb l w H)
  have HBD := Lib.hid (badR_any s h rb l w H)
  generalize posL s l = p at HBD ⊢
  generalize (tokL l).isFin = r at HO ⊢
  cases r
  · go_enter Tryd.func64, Tryd.ntmps64
    go_wp2_with fail
    refine HO.out.mono ?_
    rintro e w1 ⟨rfl, hw1⟩
    subst w1
    go_wp2_with fail
    refine HBD.out.mono ?_
    rintro e w1 ⟨rfl, hw1⟩
    subst w1
    go_wp2
    first | exact ⟨rfl, rfl, .inr ⟨trivial, rfl⟩⟩ | exact ⟨rfl, rfl, rfl⟩ | exact ⟨rfl, trivial, .inr ⟨rfl, rfl⟩⟩ | simp
  · go_enter Tryd.func64, Tryd.ntmps64
    go_wp2_with fail
    refine HO.out.mono ?_
    rintro e w1 ⟨rfl, hw1⟩
    subst w1
    go_wp2
    go_end0
    first | exact ⟨rfl, .inl ⟨rfl, rfl⟩⟩ | exact ⟨trivial, .inl ⟨rfl, rfl⟩⟩ | simp
end Go.Proofs.YtndhbdbfjkmloaaDoor
namespace Go.Proofs.YtndhbdbfjkmloaaDoor
open Go.RowKit

/-- what a rule leaves that reads R -/
def PrsQ (s : ByteArray) (h : Bool) (rb : Nat) (w : World) (R : Rs) (e : Ending) (w' : World) : Prop :=
  w.grownBy w' (some rb) ∧ match R with
    | .ok x l => (∃ cs, e = .returned (.agg cs.toArray) ∧ ExF (fun b => w.heap.size ≤ b ∧ b < w'.heap.size) w'.heap.size w' x cs) ∧ RdAt s h rb l w'
    | .no l => e = .panicked [{ v := faultV (posL s l), recovered := false }]
/-- what the rules do at a fuel -/
structure DoesR (s : ByteArray) (h : Bool) (rb : Nat) (f : Nat) : Prop where
  alt : ∀ (l : List UInt8) (R : Rs) (w : World), RdAt s h rb l w → rdJ h f .alt l = some R → Calls Tryd.prog 63 #[.pointer (some ⟨rb, 0, none⟩)] w (PrsQ s h rb w R)
  seq : ∀ (l : List UInt8) (R : Rs) (w : World), RdAt s h rb l w → rdJ h f .seq l = some R → Calls Tryd.prog 92 #[.pointer (some ⟨rb, 0, none⟩)] w (PrsQ s h rb w R)
  pre : ∀ (l : List UInt8) (R : Rs) (w : World), RdAt s h rb l w → rdJ h f .pre l = some R → Calls Tryd.prog 118 #[.pointer (some ⟨rb, 0, none⟩)] w (PrsQ s h rb w R)
  pri : ∀ (l : List UInt8) (R : Rs) (w : World), RdAt s h rb l w → rdJ h f .pri l = some R → Calls Tryd.prog 136 #[.pointer (some ⟨rb, 0, none⟩)] w (PrsQ s h rb w R)
section
variable {base lo rb : Nat} {W W' : World} {es : List Ex} {V : Option Addr} {c : Nat} {rows : Nat → List Value} {e : Ex} {cs : List Value}
theorem Kids.grownR (h : Kids base W es V c rows) (hrb : rb < base) (hg : W.grownBy W' (some rb)) : Kids base W' es V c rows :=
  ⟨own_far h.own hg hrb, fun i e he => ((h.kid i e he).keep (W' := W') fun p hp => World.cell?_of_block (hg.block p.block hp.2.1 (by intro e; injection e with e; have := hp.1; omega))).mono (fun b hb => ⟨hb.1, Nat.lt_of_lt_of_le hb.2.1 hg.size, hb.2.2⟩) hg.size⟩
theorem ExF.grownR (h : ExF (fun b => lo ≤ b ∧ b < W.heap.size) W.heap.size W e cs) (hrb : rb < lo) (hg : W.grownBy W' (some rb)) : ExF (fun b => lo ≤ b ∧ b < W'.heap.size) W'.heap.size W' e cs :=
  (h.keep (W' := W') fun p hp => World.cell?_of_block (hg.block p.block hp.2 (by intro e; injection e with e; have := hp.1; omega))).mono (fun b hb => ⟨hb.1, Nat.lt_of_lt_of_le hb.2 hg.size⟩) hg.size
theorem ExF.allocR (h : ExF (fun b => lo ≤ b ∧ b < W.heap.size) W.heap.size W e cs) (o : Obj) : ExF (fun b => lo ≤ b ∧ b < (W.alloc o).heap.size) (W.alloc o).heap.size (W.alloc o) e cs :=
  (h.keep (W' := W.alloc o) fun p hp => World.cell?_alloc_lt W o p hp.2).mono (fun b hb => ⟨hb.1, by simp; omega⟩) (by simp)
/-- a row of one kid, just made -/
theorem Kids.one (h : ExF (fun b => lo ≤ b ∧ b < W.heap.size) W.heap.size W e cs) (hlo : base ≤ lo) (hb : base ≤ W.heap.size) : Kids base (W.alloc (.cells cs.toArray 27)) [e] (some ⟨W.heap.size, 0, none⟩) 1 (fun _ => cs) := by
  have h7 := h.len7
  refine ⟨⟨by simp [kdF, h7], .inr ⟨W.heap.size, 1, cs.toArray, rfl, hb, heap_alloc_new W _, Nat.le_refl _, by simp [maxLen], by simp [h7], ?_⟩⟩, fun i x hx => ?_⟩
  · simp [kdF, ← h7]
  · match i, hx with
    | 0, hx =>
      simp at hx
      subst hx
      refine (h.keep (W' := W.alloc (.cells cs.toArray 27)) fun p hp => World.cell?_alloc_lt W _ p hp.2).mono (fun b hb' => ⟨Nat.le_trans hlo hb'.1, by simp; omega, ?_⟩) (by simp)
      intro e
      injection e with e
      have := hb'.2
      simp at e
      omega
theorem grownBut {r : Option Nat} (h : W.grownBy W' none) : W.grownBy W' r := ⟨h.os, h.tape, h.output, h.size, fun k hk _ => h.block k hk (by simp)⟩
/-- growth of a row that was made since -/
theorem grownNew {w : World} {r : Option Nat} (h : w.grownBy W (some rb)) (hg : W.grownBy W' r) (hr : ∀ q, r = some q → w.heap.size ≤ q) : w.grownBy W' (some rb) :=
  ⟨hg.os.trans h.os, hg.tape.trans h.tape, hg.output.trans h.output, Nat.le_trans h.size hg.size, fun k hk hne => (hg.block k (Nat.lt_of_lt_of_le hk h.size) (fun e => by have := hr k e.symm; omega)).trans (h.block k hk hne)⟩
theorem Kids.first (h : Kids base W [e] V c rows) : ∃ ad : Addr, V = some ad ∧ ExF (fun b => base ≤ b ∧ b < W.heap.size) W.heap.size W e (rows 0) ∧ ∀ j u, (rows 0)[j]? = some u → W.cell? (ad.add j) = some u := by
  obtain ⟨h1, h2, h3, h4, h5⟩ := h.shape
  obtain ⟨ad, hV, _⟩ := h4 (by simp)
  refine ⟨ad, hV, (h.kid 0 e rfl).mono (fun b hb => ⟨hb.1, hb.2.1⟩) (Nat.le_refl _), fun j u hu => ?_⟩
  have := h5 0 e ad rfl hV j u hu
  rw [Nat.zero_mul] at this
  rw [← this]
  unfold World.cell? Addr.add
  simp
end
end Go.Proofs.YtndhbdbfjkmloaaDoor
