/- Grammars as text, and how a text is read as one: plain. Rules that are made anew: a grammar that rests on some blocks alone; rules in a row while they are appended. A drawn region in which a call may panic: reads commute (after QSpl). -/
import Derived.Test.YtndhbdbfjkmloaaDoorJReadBack15
import Derived.Test.YtndhbdbfjkmloaaDoorJReadBack16
import Derived.Test.YtndhbdbfjkmloaaDoorJReadBack17
import Derived.Test.YtndhbdbfjkmloaaDoorJReadBack9
import Derived.Test.YtndhbdbfjkmloaaDoorJReadBack8
import Derived.Laws.OwnMore
import Derived.Deep.RegionLawGrows
import Derived.Test.YtndhbdbfjkmloaaDoorJReadBack0
namespace Go.Proofs.YtndhbdbfjkmloaaDoor
open Go.RowKit

def txR (r : Rl) : List UInt8 := r.1.data.toList ++ (32 :: 60 :: 45 :: 32 :: (txE r.2 ++ [10]))
def txG : List Rl → List UInt8
  | [] => []
  | r :: rs => txR r ++ txG rs
/-- the text of the sign ahead -/
def nmL (l : List UInt8) : ByteArray := (tkV (tokL l)).t
def nxL (l : List UInt8) : List UInt8 := goL l (tkn (tokL l))
inductive Gs where
  | ok (g : List Rl)
  | no (l : List UInt8)
def grJ : Nat → List Rl → List UInt8 → Option Gs
  | 0, _, _ => none
  | f + 1, acc, l =>
    if namesL true l = false then some (.no l)
    else if (tokL (nxL l)).isBad = true then some (.no (nxL l))
    else if (tokL (nxL (nxL l))).isBad = true then some (.no (nxL (nxL l)))
    else match rdJ true f .alt (nxL (nxL l)) with
      | none => none
      | some (.no l3) => some (.no l3)
      | some (.ok b l3) => if (tokL l3).isFin = true then some (.ok (acc ++ [(nmL l, b)])) else grJ f (acc ++ [(nmL l, b)]) l3
theorem grJ_succ : ∀ (f : Nat) (acc : List Rl) (l : List UInt8) (R : Gs), grJ f acc l = some R → grJ (f + 1) acc l = some R
  | 0, _, _, _, h => by cases h
  | f + 1, acc, l, R, h => by
    rw [grJ] at h ⊢
    split at h
    · rw [if_pos (by assumption)]; exact h
    · rw [if_neg (by assumption)]
      split at h
      · rw [if_pos (by assumption)]; exact h
      · rw [if_neg (by assumption)]
        split at h
        · rw [if_pos (by assumption)]; exact h
        · rw [if_neg (by assumption)]
          cases hx : rdJ true f .alt (nxL (nxL l)) with
          | none => rw [hx] at h; cases h
          | some R1 =>
            rw [hx] at h
            rw [rdJ_succ true f _ _ _ hx]
            cases R1 with
            | no l3 => exact h
            | ok b l3 =>
              simp only at h ⊢
              split at h
              · rw [if_pos (by assumption)]; exact h
              · rw [if_neg (by assumption)]; exact grJ_succ f _ _ _ h
theorem grJ_le {f f' : Nat} (hf : f ≤ f') {acc : List Rl} {l : List UInt8} {R : Gs} (h : grJ f acc l = some R) : grJ f' acc l = some R := by
  induction hf with
  | refl => exact h
  | step _ ih => exact grJ_succ _ _ _ _ ih
theorem nx_le (l : List UInt8) : (nxL l).length ≤ l.length := by
  unfold nxL goL
  have := skip_le false (l.drop (tkn (tokL l)))
  rw [List.length_drop] at this
  omega
theorem grJ_ends : ∀ (n : Nat) (acc : List Rl) (l : List UInt8), l.length ≤ n → ∃ f R, grJ f acc l = some R
  | n, acc, l, hn => by
    cases h1 : namesL true l with
    | false => exact ⟨1, _, by rw [grJ, if_pos h1]⟩
    | true =>
      cases h2 : (tokL (nxL l)).isBad with
      | true => exact ⟨1, _, by rw [grJ, if_neg (by rw [h1]; decide), if_pos h2]⟩
      | false =>
        cases h3 : (tokL (nxL (nxL l))).isBad with
        | true => exact ⟨1, _, by rw [grJ, if_neg (by rw [h1]; decide), if_neg (by rw [h2]; decide), if_pos h3]⟩
        | false =>
          obtain ⟨R1, ⟨f1, hf1⟩, hl⟩ := rd_ends true .alt (nxL (nxL l))
          cases R1 with
          | no l3 => exact ⟨f1 + 1, _, by rw [grJ, if_neg (by rw [h1]; decide), if_neg (by rw [h2]; decide), if_neg (by rw [h3]; decide), hf1]⟩
          | ok b l3 =>
            cases h4 : (tokL l3).isFin with
            | true => exact ⟨f1 + 1, _, by rw [grJ, if_neg (by rw [h1]; decide), if_neg (by rw [h2]; decide), if_neg (by rw [h3]; decide), hf1]; exact if_pos h4⟩
            | false =>
              have h5 := hl b l3 rfl
              have h6 := nx_le l
              have h7 := nx_le (nxL l)
              simp only [eatJ] at h5
              cases n with
              | zero => omega
              | succ n =>
                obtain ⟨f2, R, hf2⟩ := grJ_ends n (acc ++ [(nmL l, b)]) l3 (by omega)
                refine ⟨max f1 f2 + 1, R, ?_⟩
                rw [grJ, if_neg (by rw [h1]; decide), if_neg (by rw [h2]; decide), if_neg (by rw [h3]; decide), rdJ_le (Nat.le_max_left f1 f2) hf1]
                simp only [h4, Bool.false_eq_true, if_false]
                exact grJ_le (Nat.le_max_right f1 f2) hf2
/-- what a whole text is read as -/
def WholeG (s : List UInt8) (R : Gs) : Prop := ((tokL (skipL false s)).isBad = true ∧ R = .no (skipL false s)) ∨ ((tokL (skipL false s)).isBad = false ∧ ∃ f, grJ f [] (skipL false s) = some R)
theorem wholeG_ex (s : List UInt8) : ∃ R, WholeG s R := by
  cases hb : (tokL (skipL false s)).isBad with
  | true => exact ⟨_, .inl ⟨hb, rfl⟩⟩
  | false =>
    obtain ⟨f, R, h⟩ := grJ_ends _ [] (skipL false s) (Nat.le_refl _)
    exact ⟨R, .inr ⟨hb, f, h⟩⟩
theorem WholeG.uniq {s : List UInt8} {R R' : Gs} (h : WholeG s R) (h' : WholeG s R') : R = R' := by
  rcases h with ⟨h1, rfl⟩ | ⟨h1, f, h2⟩
  · rcases h' with ⟨_, rfl⟩ | ⟨h3, _⟩
    · rfl
    · rw [h1] at h3; cases h3
  · rcases h' with ⟨h3, _⟩ | ⟨_, f', h4⟩
    · rw [h1] at h3; cases h3
    · have a := grJ_le (Nat.le_max_left f f') h2
      have b := grJ_le (Nat.le_max_right f f') h4
      rw [a] at b
      exact Option.some.inj b
theorem grJ_wf : ∀ (f : Nat) (acc : List Rl) (l : List UInt8) (g : List Rl), (∀ r ∈ acc, WfE r.2) → grJ f acc l = some (.ok g) → ∀ r ∈ g, WfE r.2
  | 0, _, _, _, _, h => by cases h
  | f + 1, acc, l, g, ha, h => by
    rw [grJ] at h
    split at h
    · cases h
    · split at h
      · cases h
      · split at h
        · cases h
        · cases hx : rdJ true f .alt (nxL (nxL l)) with
          | none => rw [hx] at h; cases h
          | some R1 =>
            rw [hx] at h
            cases R1 with
            | no l3 => cases h
            | ok b l3 =>
              have hb := rd_wf true f .alt _ _ _ trivial hx
              have hacc : ∀ r ∈ acc ++ [(nmL l, b)], WfE r.2 := fun r hr => by
                rcases List.mem_append.1 hr with hr | hr
                · exact ha r hr
                · rw [List.mem_singleton.1 hr]; exact hb
              simp only at h
              split at h
              · injection h with h
                injection h with h
                rw [← h]
                exact hacc
              · exact grJ_wf f _ _ _ hacc h
theorem grJ_rest : ∀ (f : Nat) (acc : List Rl) (l l' : List UInt8) (m : Nat), l.length ≤ m → grJ f acc l = some (.no l') → l'.length ≤ m
  | 0, _, _, _, _, _, h => by cases h
  | f + 1, acc, l, l', m, hm, h => by
    have h6 := nx_le l
    have h7 := nx_le (nxL l)
    rw [grJ] at h
    split at h
    · injection h with h; injection h with h; rw [← h]; exact hm
    · split at h
      · injection h with h; injection h with h; rw [← h]; omega
      · split at h
        · injection h with h; injection h with h; rw [← h]; omega
        · cases hx : rdJ true f .alt (nxL (nxL l)) with
          | none => rw [hx] at h; cases h
          | some R1 =>
            rw [hx] at h
            have hr := rd_rest true f .alt _ R1 m (by omega) hx
            cases R1 with
            | no l3 => injection h with h; injection h with h; rw [← h]; exact hr
            | ok b l3 =>
              simp only at h
              split at h
              · cases h
              · exact grJ_rest f _ _ _ m hr h

/-! what was printed -/
/-- rules of which each may stand -/
def RtG (g : List Rl) : Prop := ∀ r ∈ g, nameB r.1.data.toList = true ∧ Rtx r.2
theorem chk1_rt {G : List Rl} : ∀ (g : List Rl) (i all : Nat), (chk1 G g i all).1 = 0 → ∀ r ∈ g, nameB r.1.data.toList = true ∧ checkE r.2 = 0
  | [], _, _, _, r, hr => by cases hr
  | r0 :: rs, i, all, h, r, hr => by
    rw [chk1] at h
    split at h
    · exact absurd h (by show (6 : Int) ≠ 0; decide)
    · rename_i h1
      split at h
      · exact absurd h (by show (7 : Int) ≠ 0; decide)
      · split at h
        · rename_i h3
          exact absurd h h3
        · rename_i h3
          rcases List.mem_cons.1 hr with rfl | hr
          · exact ⟨by simpa using h1, by simpa using h3⟩
          · exact chk1_rt rs _ _ h r hr
theorem rtG_of {g : List Rl} (hw : ∀ r ∈ g, WfE r.2) (hc : checkG g = 0) : RtG g ∧ g ≠ [] ∧ g.length ≤ 10 ∧ ∀ r ∈ g, checkE r.2 = 0 := by
  unfold checkG at hc
  split at hc
  · exact absurd hc (by decide)
  · rename_i h0
    split at hc
    · exact absurd hc (by decide)
    · rename_i h10
      split at hc
      · rename_i h1
        exact absurd hc h1
      · rename_i h1
        have h2 := chk1_rt (G := g) g 0 0 (by simpa using h1)
        exact ⟨fun r hr => ⟨(h2 r hr).1, rt_of (hw r hr) (h2 r hr).2⟩, fun e => h0 (by rw [e]; rfl), by omega, fun r hr => (h2 r hr).2⟩
theorem sep_name (r : List UInt8) : Sep (32 :: r) := sep_32 r
theorem goL_app (t r : List UInt8) : goL (t ++ r) t.length = skipL false r := go_left t r
/-- at the head of a rule that was printed -/
theorem rule_head {r : Rl} (hn : nameB r.1.data.toList = true) (x : List UInt8) :
    tokL (r.1.data.toList ++ (32 :: 60 :: 45 :: 32 :: x)) = .nd (eRef r.1.data.toList) r.1.data.toList.length ∧ Solid (r.1.data.toList ++ (32 :: 60 :: 45 :: 32 :: x)) ∧ namesL true (r.1.data.toList ++ (32 :: 60 :: 45 :: 32 :: x)) = true ∧
      nmL (r.1.data.toList ++ (32 :: 60 :: 45 :: 32 :: x)) = r.1 ∧ nxL (r.1.data.toList ++ (32 :: 60 :: 45 :: 32 :: x)) = 60 :: 45 :: 32 :: x := by
  obtain ⟨h1, h2⟩ := tok_name hn (sep_name (60 :: 45 :: 32 :: x))
  have h3 : goL (r.1.data.toList ++ (32 :: 60 :: 45 :: 32 :: x)) r.1.data.toList.length = 60 :: 45 :: 32 :: x := by
    rw [goL_app, skip_32]
    exact solid_cons (by decide)
  refine ⟨h1, h2, ?_, ?_, ?_⟩
  · unfold namesL
    rw [h1]
    simp only [h3]
    rfl
  · unfold nmL
    rw [h1]
    exact text_back r.1
  · unfold nxL tkn
    rw [h1]
    exact h3
theorem arrow_next (x : List UInt8) : tokL (60 :: 45 :: 32 :: x) = .sg 60 2 ∧ nxL (60 :: 45 :: 32 :: x) = skipL false x := by
  have h := tok_lt (32 :: x)
  refine ⟨h, ?_⟩
  unfold nxL tkn
  rw [h]
  show skipL false ((60 :: 45 :: 32 :: x).drop 2) = _
  exact skip_32 x
/-- behind a rule comes its end, or the next one -/
theorem tail_ok {g : List Rl} (hg : RtG g) : Fol (10 :: txG g) ∧ skipL false (10 :: txG g) = txG g ∧ NoPost (txG g) ∧ begL true (txG g) = false ∧ NoSl (txG g) ∧ ((tokL (txG g)).isFin = true ↔ g = []) := by
  have h10 : ∀ l, skipL false (10 :: l) = skipL false l := fun l => by rw [skipL, if_pos (by decide)]
  cases g with
  | nil => exact ⟨⟨(by decide : isLD 10 = false), rfl, by decide⟩, rfl, fun c n h => (by cases h), rfl, fun c n h => (by cases h), ⟨fun _ => rfl, fun _ => rfl⟩⟩
  | cons r rs =>
    obtain ⟨hn, _⟩ := hg r (.head _)
    have e : txG (r :: rs) = r.1.data.toList ++ (32 :: 60 :: 45 :: 32 :: (txE r.2 ++ 10 :: txG rs)) := by
      show txR r ++ txG rs = _
      unfold txR
      simp
    obtain ⟨h1, h2, h3, h4, h5⟩ := rule_head hn (txE r.2 ++ 10 :: txG rs)
    rw [← e] at h1 h2 h3
    have hs : skipL false (10 :: txG (r :: rs)) = txG (r :: rs) := by rw [h10]; exact h2
    have hbeg : begL true (txG (r :: rs)) = false := by
      unfold begL
      rw [h1]
      simp only [h3]
      rfl
    have htk : (txG (r :: rs)).take 2 ≠ [60, 45] := by
      intro ht
      obtain ⟨c, t', hc, hl, _⟩ := name_parts hn
      rw [e, hc, List.cons_append] at ht
      have hc60 : c = 60 := by
        cases h : (t' ++ (32 :: 60 :: 45 :: 32 :: (txE r.2 ++ 10 :: txG rs))) with
        | nil => rw [h] at ht; simp at ht
        | cons y ys => rw [h] at ht; simp at ht; exact ht.1
      rw [hc60] at hl
      exact absurd hl (by decide)
    refine ⟨⟨(by decide : isLD 10 = false), by rw [hs, h1]; rfl, by rw [hs]; exact htk⟩, hs, fun c n h => (by rw [h1] at h; cases h), hbeg, fun c n h => (by rw [h1] at h; cases h), ?_⟩
    rw [h1]
    exact ⟨fun h => (by cases h), fun h => (by cases h)⟩
theorem gr_back : ∀ (g : List Rl), RtG g → g ≠ [] → ∀ acc, ∃ f, grJ f acc (txG g) = some (.ok (acc ++ g))
  | [], _, h, _ => absurd rfl h
  | r :: rs, hg, _, acc => by
    obtain ⟨hn, hR⟩ := hg r (.head _)
    have hrs : RtG rs := fun x hx => hg x (.tail _ hx)
    have e : txG (r :: rs) = r.1.data.toList ++ (32 :: 60 :: 45 :: 32 :: (txE r.2 ++ 10 :: txG rs)) := by
      show txR r ++ txG rs = _
      unfold txR
      simp
    obtain ⟨h1, h2, h3, h4, h5⟩ := rule_head hn (txE r.2 ++ 10 :: txG rs)
    obtain ⟨t1, t2, t3, t4, t5, t6⟩ := tail_ok hrs
    obtain ⟨a1, a2⟩ := arrow_next (txE r.2 ++ 10 :: txG rs)
    have H := rdb true r.2 hR
    obtain ⟨s1, s2⟩ := H.hd _ t1
    have hs1 : skipL false (txE r.2 ++ 10 :: txG rs) = txE r.2 ++ 10 :: txG rs := s1
    rw [hs1] at a2
    have hrd := H.e (10 :: txG rs) t1 (by rw [t2]; exact t3) (by rw [t2]; exact t4) (by rw [t2]; exact t5)
    rw [t2] at hrd
    obtain ⟨f1, hf1⟩ := hrd
    by_cases hrn : rs = []
    · subst hrn
      refine ⟨f1 + 1, ?_⟩
      rw [e, grJ, if_neg (by rw [h3]; decide), h5, if_neg (by rw [a1]; decide), a2, if_neg (by rw [(beg_what s2).1]; decide), hf1, h4]
      exact if_pos (t6.2 rfl)
    · obtain ⟨f2, hf2⟩ := gr_back rs hrs hrn (acc ++ [r])
      have hnf : ¬ (tokL (txG rs)).isFin = true := fun h => hrn (t6.1 h)
      refine ⟨max f1 f2 + 1, ?_⟩
      rw [e, grJ, if_neg (by rw [h3]; decide), h5, if_neg (by rw [a1]; decide), a2, if_neg (by rw [(beg_what s2).1]; decide), rdJ_le (Nat.le_max_left f1 f2) hf1, h4]
      simp only [hnf, Bool.false_eq_true, if_false]
      rw [grJ_le (Nat.le_max_right f1 f2) hf2, List.append_assoc]
      rfl
/-- a grammar that was printed is read as it was -/
theorem wholeG_back {g : List Rl} (hg : RtG g) (hne : g ≠ []) : WholeG (txG g) (.ok g) := by
  obtain ⟨f, hf⟩ := gr_back g hg hne []
  cases g with
  | nil => exact absurd rfl hne
  | cons r rs =>
    obtain ⟨hn, _⟩ := hg r (.head _)
    have e : txG (r :: rs) = r.1.data.toList ++ (32 :: 60 :: 45 :: 32 :: (txE r.2 ++ 10 :: txG rs)) := by
      show txR r ++ txG rs = _
      unfold txR
      simp
    obtain ⟨h1, h2, _⟩ := rule_head hn (txE r.2 ++ 10 :: txG rs)
    rw [← e] at h1 h2
    have hs : skipL false (txG (r :: rs)) = txG (r :: rs) := h2
    unfold WholeG
    rw [hs, h1]
    exact .inr ⟨rfl, f, by rw [hf]; rfl⟩
/-- what Read answers -/
inductive ReadGR (s : List UInt8) : Option (List Rl) → Nat → Int → Prop where
  | large : 2000 < s.length → ReadGR s none 0 2
  | syn (l : List UInt8) : s.length ≤ 2000 → WholeG s (.no l) → ReadGR s none (s.length - l.length) 4
  | bad (g : List Rl) : s.length ≤ 2000 → WholeG s (.ok g) → checkG g ≠ 0 → ReadGR s none 0 (checkG g)
  | ok (g : List Rl) : s.length ≤ 2000 → WholeG s (.ok g) → checkG g = 0 → ReadGR s (some g) 0 0
theorem ReadGR.uniq {s : List UInt8} {e e' : Option (List Rl)} {a a' : Nat} {x x' : Int} (h : ReadGR s e a x) (h' : ReadGR s e' a' x') : e = e' ∧ a = a' ∧ x = x' := by
  cases h with
  | large h1 =>
    cases h' with
    | large _ => exact ⟨rfl, rfl, rfl⟩
    | syn _ h2 => omega
    | bad _ h2 => omega
    | ok _ h2 => omega
  | syn l h1 h2 =>
    cases h' with
    | large h3 => omega
    | syn l' _ h3 => have := h2.uniq h3; injection this with this; rw [this]; exact ⟨rfl, rfl, rfl⟩
    | bad _ _ h3 => have := h2.uniq h3; cases this
    | ok _ _ h3 => have := h2.uniq h3; cases this
  | bad e h1 h2 hc =>
    cases h' with
    | large h3 => omega
    | syn l' _ h3 => have := h2.uniq h3; cases this
    | bad _ _ h3 => have := h2.uniq h3; injection this with e1; rw [e1]; exact ⟨rfl, rfl, rfl⟩
    | ok _ _ h3 hc' => have := h2.uniq h3; injection this with e1; rw [e1] at hc; exact absurd hc' hc
  | ok e h1 h2 hc =>
    cases h' with
    | large h3 => omega
    | syn l' _ h3 => have := h2.uniq h3; cases this
    | bad _ _ h3 hc' => have := h2.uniq h3; injection this with e1; rw [e1] at hc; exact absurd hc hc'
    | ok _ _ h3 => have := h2.uniq h3; injection this with e1; rw [e1]; exact ⟨rfl, rfl, rfl⟩
theorem readG_some {s : List UInt8} {g : List Rl} {p : Nat} {x : Int} (h : ReadGR s (some g) p x) : (∀ r ∈ g, WfE r.2) ∧ checkG g = 0 ∧ p = 0 ∧ x = 0 := by
  cases h with
  | ok _ _ h1 h2 =>
    refine ⟨?_, h2, rfl, rfl⟩
    rcases h1 with ⟨_, h1⟩ | ⟨_, f, hf⟩
    · cases h1
    · exact grJ_wf f [] _ _ (fun r hr => by cases hr) hf
theorem readG_none {s : List UInt8} {p : Nat} {x : Int} (h : ReadGR s none p x) : x ≠ 0 ∧ p ≤ s.length := by
  cases h with
  | large h1 => exact ⟨by decide, Nat.zero_le _⟩
  | syn l h1 h2 => exact ⟨by decide, Nat.sub_le _ _⟩
  | bad e h1 h2 h3 => exact ⟨h3, Nat.zero_le _⟩
/-- a grammar that is right is read as it was printed -/
theorem readG_back {g : List Rl} (hw : ∀ r ∈ g, WfE r.2) (hc : checkG g = 0) (hl : (txG g).length ≤ 2000) : ReadGR (txG g) (some g) 0 0 := by
  obtain ⟨h1, h2, _⟩ := rtG_of hw hc
  exact .ok g hl (wholeG_back h1 h2) hc
end Go.Proofs.YtndhbdbfjkmloaaDoor
namespace Go.Proofs.YtndhbdbfjkmloaaDoor
open Go.RowKit Go.Maps

/-- a grammar that rests on blocks of S alone -/
def GrF (S : Nat → Prop) (hi : Nat) (W : World) (g : List Rl) (V : Option Addr) (c : Nat) (rows : Nat → List Value) : Prop := ∀ X : World, (∀ p : Addr, S p.block → X.cell? p = W.cell? p) → GrIs X hi g V c rows
section
variable {S S' : Nat → Prop} {hi hi' : Nat} {W W' : World} {g : List Rl} {V : Option Addr} {c : Nat} {rows : Nat → List Value}
theorem GrF.is (h : GrF S hi W g V c rows) : GrIs W hi g V c rows := h W fun _ _ => rfl
theorem GrF.keep (h : GrF S hi W g V c rows) (hk : ∀ p : Addr, S p.block → W'.cell? p = W.cell? p) : GrF S hi W' g V c rows := fun X hX => h X fun p hp => (hX p hp).trans (hk p hp)
theorem GrF.mono (h : GrF S hi W g V c rows) (hs : ∀ b, S b → S' b) (hh : hi ≤ hi') : GrF S' hi' W g V c rows := fun X hX => (h X fun p hp => hX p (hs _ hp)).more hh
theorem GrF.nil (S : Nat → Prop) (hi : Nat) (W : World) : GrF S hi W [] none 0 (fun _ => []) := fun _ _ => ⟨by simp, by unfold maxLen; omega, fun _ => rfl, fun h => by simp at h, fun i r h => by simp at h, fun i r h => by simp at h, fun i r ad h => by simp at h, fun i r ad h => by simp at h⟩
end
/-- rules that were made anew, in a row of one's own -/
structure Rus (base : Nat) (W : World) (g : List Rl) (V : Option Addr) (c : Nat) (rows : Nat → List Value) : Prop where
  own : W.ownsRow base 71 8 (.slice V g.length c) g.length (ruF g rows 0)
  small : ∀ r ∈ g, r.1.size ≤ maxLen
  body : ∀ i r, g[i]? = some r → ExF (fun b => base ≤ b ∧ b < W.heap.size ∧ some b ≠ (Value.slice V g.length c).ownBlock) W.heap.size W r.2 (rows i)
section
variable {base : Nat} {W W' : World} {g : List Rl} {V : Option Addr} {c : Nat} {rows : Nat → List Value}
theorem Rus.nil (base : Nat) (W : World) : Rus base W [] none 0 (fun _ => []) := ⟨World.ownsRow_nil _ _ _ _, fun _ h => (by cases h), fun i e h => by simp at h⟩
theorem Rus.below (h : Rus base W g V c rows) (hb : Below W.heap.size W W') : Rus base W' g V c rows :=
  ⟨own_below h.own hb, h.small, fun i e he => ((h.body i e he).keep (W' := W') fun _ hp => hb.cell hp.2.1).mono (fun _ hb' => ⟨hb'.1, Nat.lt_of_lt_of_le hb'.2.1 hb.size, hb'.2.2⟩) hb.size⟩
theorem Rus.far (h : Rus base W g V c rows) {k : Nat} (hk : k < base) (i : Nat) (u : Value) : Rus base (W.setCell ⟨k, i, none⟩ u) g V c rows :=
  have hs : (W.setCell ⟨k, i, none⟩ u).heap.size = W.heap.size := by simp [World.setCell]
  ⟨own_far h.own ⟨rfl, rfl, rfl, by simp [World.setCell], fun q hq hne => Below.heap_setCell W ⟨k, i, none⟩ u q (by rintro rfl; exact hne rfl)⟩ hk, h.small, fun j e he => by
    rw [hs]
    exact (h.body j e he).keep fun p hp => World.cell?_setCell_other W _ p u (by rintro rfl; have := hp.1; simp at this; omega)⟩
theorem Rus.old (h : Rus base W g V c rows) : ∀ q, (Value.slice V g.length c).ownBlock = some q → q < W.heap.size := fun q hq => (h.own.lt q hq).2
/-- one rule more -/
theorem Rus.push {V' : Option Addr} {c' lo : Nat} {r : Rl} {rc : List Value} (h : Rus base W g V c rows) (hlo : base ≤ lo) (hold : ∀ q, (Value.slice V g.length c).ownBlock = some q → q < lo) (hn : r.1.size ≤ maxLen) (hE : ExF (fun b => lo ≤ b ∧ b < W.heap.size) W.heap.size W r.2 rc)
    (hown : W'.ownsRow base 71 8 (.slice V' (g.length + 1) c') (g.length + 1) (ruF g rows 0 ++ (.string r.1 :: rc))) (hg : W.grownBy W' (Value.slice V g.length c).ownBlock)
    (hat : (Value.slice V' (g.length + 1) c').ownBlock = (Value.slice V g.length c).ownBlock ∨ (Value.slice V' (g.length + 1) c').ownBlock = some W.heap.size) :
    Rus base W' (g ++ [r]) V' c' (fun i => if i = g.length then rc else rows i) := by
  have hl : (g ++ [r]).length = g.length + 1 := by simp
  have hne : ∀ b, b < W.heap.size → some b ≠ (Value.slice V g.length c).ownBlock → some b ≠ (Value.slice V' (g.length + 1) c').ownBlock := fun b hb hne => by
    rcases hat with h1 | h1
    · rw [h1]; exact hne
    · rw [h1]; intro e; injection e with e; omega
  have hkeep : ∀ p : Addr, p.block < W.heap.size → some p.block ≠ (Value.slice V g.length c).ownBlock → W'.cell? p = W.cell? p := fun p h1 h2 => World.cell?_of_block (hg.block p.block h1 h2)
  refine ⟨?_, fun x hx => ?_, fun i x hx => ?_⟩
  · rw [hl, ruF_app, ruF_same g (fun i => if i = g.length then rc else rows i) rows 0 (fun i hi => if_neg (by omega)), ruF, ruF, List.append_nil, Nat.zero_add, if_pos rfl]
    exact hown
  · rcases List.mem_append.1 hx with hx | hx
    · exact h.small x hx
    · rw [List.mem_singleton.1 hx]; exact hn
  · rw [hl]
    by_cases hi : i < g.length
    · rw [List.getElem?_append_left hi] at hx
      rw [if_neg (by omega)]
      exact ((h.body i x hx).keep (W' := W') fun p hp => hkeep p hp.2.1 hp.2.2).mono (fun b hb => ⟨hb.1, Nat.lt_of_lt_of_le hb.2.1 hg.size, hne b hb.2.1 hb.2.2⟩) hg.size
    · have hi' : i = g.length := by have := getElem?_lt hx; simp at this; omega
      subst hi'
      simp at hx
      subst hx
      rw [if_pos rfl]
      have hx : ∀ b, lo ≤ b → some b ≠ (Value.slice V g.length c).ownBlock := fun b hb e => by have := hold b e.symm; omega
      exact (hE.keep (W' := W') fun p hp => hkeep p hp.2 (hx _ hp.1)).mono (fun b hb => ⟨Nat.le_trans hlo hb.1, Nat.lt_of_lt_of_le hb.2 hg.size, hne b hb.2 (hx b hb.1)⟩) hg.size
/-- the grammar of these rules -/
theorem Rus.gr (h : Rus base W g V c rows) : GrF (fun b => base ≤ b ∧ b < W.heap.size) W.heap.size W g V c rows := by
  intro X hX
  have h7 : ∀ j, j < g.length → (rows (0 + j)).length = 7 := fun j hj => by rw [Nat.zero_add]; exact (h.body j _ (List.getElem?_eq_getElem hj)).len7
  have ho := h.own
  have hlt := ho.lt
  have hc : g.length ≤ c ∧ c ≤ maxLen ∧ (V = none → c = 0) ∧ (0 < g.length → ∃ ad : Addr, V = some ad ∧ ad.block < W.heap.size ∧ base ≤ ad.block) ∧ ∀ (ad : Addr), V = some ad → ∀ j u, (ruF g rows 0)[j]? = some u → W.cell? (ad.add j) = some u := by
    rcases ho.2 with ⟨h1, h2⟩ | ⟨g1, cap, cur, hv, h3, h4, h5, h6, _⟩
    · injection h1 with e1 e2 e3
      subst e1 e3
      exact ⟨by omega, by unfold maxLen; omega, fun _ => rfl, fun h => by omega, fun _ h => by cases h⟩
    · injection hv with e1 e2 e3
      subst e1 e3
      refine ⟨h5, h6, fun h => (by cases h), fun _ => ⟨_, rfl, (hlt g1 rfl).2, (hlt g1 rfl).1⟩, fun ad hA j u hu => ?_⟩
      injection hA with hA
      subst hA
      exact ho.cells rfl j u hu
  obtain ⟨c1, c2, c3, c4, c5⟩ := hc
  have hcell : ∀ (i : Nat) (r : Rl) (ad : Addr), g[i]? = some r → V = some ad → ∀ j u, (ruF g rows 0)[j]? = some u → X.cell? (ad.add j) = some u := fun i r ad hr hA j u hu => by
    obtain ⟨ad', e1, e2, e3⟩ := c4 (by have := getElem?_lt hr; omega)
    rw [hA] at e1
    injection e1 with e1
    subst e1
    rw [hX _ (by rw [add_block]; exact ⟨e3, e2⟩)]
    exact c5 ad hA j u hu
  refine ⟨c1, c2, c3, fun h0 => by obtain ⟨ad, e1, e2, _⟩ := c4 h0; exact ⟨ad, e1, e2⟩, fun i r hr => h.small r (List.mem_of_getElem? hr), fun i r hr => h.body i r hr X fun p hp => hX p ⟨hp.1, hp.2.1⟩, fun i r ad hr hA => ?_, fun i r ad hr hA j u hu => ?_⟩
  · exact hcell i r ad hr hA _ _ (ruF_get g rows 0 i r h7 hr).1
  · rw [add_add']
    exact hcell i r ad hr hA _ _ ((ruF_get g rows 0 i r h7 hr).2 j u (by rw [Nat.zero_add]; exact hu))
end
/-- what a region reads where a rule is appended: the box of what is made, the rule's box -/
structure RuC (ob kb : Nat) (o k : Array Value) (W : World) : Prop where
  out : Blk W ob 39 o
  rule : Blk W kb 71 k
theorem RuC.below {ob kb : Nat} {o k : Array Value} {W W' : World} (h : RuC ob kb o k W) (hb : Below W.heap.size W W') : RuC ob kb o k W' := ⟨h.out.below hb h.out.lt, h.rule.below hb h.rule.lt⟩
theorem RuC.grown {ob kb : Nat} {o k : Array Value} {W W' : World} {r : Option Nat} (h : RuC ob kb o k W) (hg : W.grownBy W' r) (h1 : some ob ≠ r) (h2 : some kb ≠ r) : RuC ob kb o k W' := ⟨h.out.grown hg h1, h.rule.grown hg h2⟩
end Go.Proofs.YtndhbdbfjkmloaaDoor
namespace Go.Proofs.YtndhbdbfjkmloaaDoor

section
variable {P : Program} {ops : Array Oper} {md : Region.Mode} {C : World → Prop} {late : Nat → Bool} {Q : Exit → Act → World → Prop} {X : List PanicEntry → World → Prop} {D : List Deferred} {m : Nat} {T : Array Value}
/-- the act has these deferred calls, and this in its first slots -/
structure InvA (D : List Deferred) (m : Nat) (T : Array Value) (a : Act) : Prop where
  dfs : a.defers = D
  tm : ∀ i, i < m → a.tmps[i]? = T[i]?
theorem InvA.put {D : List Deferred} {m : Nat} {T : Array Value} {a : Act} (h : InvA D m T a) {dst : Option Nat} (hd : dst.all (fun d => decide (m ≤ d)) = true) (u : Value) : InvA D m T (a.put dst u) := by
  cases dst with
  | none => exact h
  | some d =>
    have hd : m ≤ d := by simpa using hd
    exact ⟨h.dfs, fun i hi => by
      show (a.tmps.setIfInBounds d u)[i]? = _
      rw [Array.getElem?_setIfInBounds, if_neg (by omega)]
      exact h.tm i hi⟩
/-- a step that may fall out of the way by a panic, for which X then holds -/
def stepP (P : Program) (X : List PanicEntry → World → Prop) (o : Oper) (a : Act) (w : World) (K : Act → World → Prop) : Prop := match (execOp a.eval o).run P w with
  | .ok (.value u) w' => K (a.put o.dst u) w'
  | .ok .skip w' => K (a.put o.dst undef) w'
  | .ok (.enter f args) w' => Calls P f args w' (fun e w'' => (∃ v, e = .returned v ∧ K (a.put o.dst v) w'') ∨ ∃ ch, e = .panicked ch ∧ X ch w'')
  | _ => False
theorem stepP.wp {o : Oper} {a : Act} {w : World} {K : Act → World → Prop} (hX : ∀ ch w a, X ch w → InvA D m T a → Q (.panic ch) a w) (ha : InvA D m T a) (hd : o.dst.all (fun d => decide (m ≤ d)) = true) (h : stepP P X o a w K) : o.wp P a w (fun a' w' => InvA D m T a' ∧ K a' w') Q := by
  unfold stepP at h
  unfold Oper.wp
  generalize (execOp a.eval o).run P w = r at *
  cases r with
  | ok n w' =>
    cases n <;> simp only at h <;> simp only [Oper.upon]
    case value u => exact ⟨ha.put hd _, h⟩
    case skip => exact ⟨ha.put hd _, h⟩
    case enter f args =>
      refine h.mono fun e w'' h => ?_
      rcases h with ⟨v, he, hw''⟩ | ⟨ch, he, hx⟩
      · subst he; exact ⟨ha.put hd _, hw''⟩
      · subst he; exact hX ch w'' _ hx ha
  | halt x w' => simp only at h
theorem stepP.mono {o : Oper} {a : Act} {w : World} {K K' : Act → World → Prop} (hK : ∀ a w, K a w → K' a w) (h : stepP P X o a w K) : stepP P X o a w K' := by
  unfold stepP at *
  generalize (execOp a.eval o).run P w = r at *
  cases r with
  | ok n w' =>
    cases n <;> simp only at h ⊢
    case value u => exact hK _ _ h
    case skip => exact hK _ _ h
    case enter f args => exact h.mono fun e w'' h => h.imp (fun ⟨v, he, hw''⟩ => ⟨v, he, hK _ _ hw''⟩) id
  | halt x w' => simp only at h
theorem stepP.of_T {o : Oper} {a : Act} {w : World} {K : Act → World → Prop} (h : stepT P o a w K) : stepP P X o a w K := by
  unfold stepT at h
  unfold stepP
  generalize (execOp a.eval o).run P w = r at *
  cases r with
  | ok n w' =>
    cases n <;> simp only at h ⊢
    case value u => exact h
    case skip => exact h
    case enter f args => exact h.mono fun e w'' h => .inl h
  | halt x w' => simp only at h
def goesP (P : Program) (X : List PanicEntry → World → Prop) (ops : Array Oper) (i : Nat) (K : Act → World → Prop) (a : Act) (w : World) : Prop := match ops[i]? with
  | none => K a w
  | some o => if Region.wanted o (yielded ops a.tmps) then stepP P X o a w K else K (a.put o.dst undef) w
theorem goesP.mono {i : Nat} {a : Act} {w : World} {K K' : Act → World → Prop} (hK : ∀ a w, K a w → K' a w) (h : goesP P X ops i K a w) : goesP P X ops i K' a w := by
  unfold goesP at *
  split
  · rename_i ho; simp only [ho] at h; exact hK _ _ h
  · rename_i o ho
    simp only [ho] at h
    split
    · rename_i hw; simp only [hw, if_true] at h; exact stepP.mono hK h
    · rename_i hw; simp only [hw] at h; exact hK _ _ h
/-- whatever order is picked from here on -/
def wpAnyP (P : Program) (X : List PanicEntry → World → Prop) (md : Region.Mode) (ops : Array Oper) (C : World → Prop) (late : Nat → Bool) (Q : Exit → Act → World → Prop) : Nat → Array Bool → Act → World → Prop
  | 0, listed, a, w => Region.ready md ops listed = [] ∧ Q .normal a w
  | f + 1, listed, a, w => (Region.ready md ops listed = [] → Q .normal a w) ∧ ∀ i ∈ Region.ready md ops listed, goesP P X ops i (fun a' w' => (late i = false → C w') ∧ wpAnyP P X md ops C late Q f (listed.setIfInBounds i true) a' w') a w
theorem wpAny_of_P (hX : ∀ ch w a, X ch w → InvA D m T a → Q (.panic ch) a w) (hd : ops.all (fun o => o.dst.all (fun d => decide (m ≤ d))) = true) : ∀ (f : Nat) (listed : Array Bool) (a : Act) (w : World), InvA D m T a → wpAnyP P X md ops C late Q f listed a w → wpAny P md ops Q f listed a w
  | 0, _, _, _, _, h => h
  | f + 1, listed, a, w, ha, h => ⟨h.1, fun i hi => by
      have h1 := h.2 i hi
      unfold goesP at h1
      unfold wpOp
      split
      · rename_i ho; simp only [ho] at h1; exact wpAny_of_P hX hd f _ _ _ ha h1.2
      · rename_i o ho
        have hdo : o.dst.all (fun d => decide (m ≤ d)) = true := by
          obtain ⟨hi', rfl⟩ := Array.getElem?_eq_some_iff.1 ho
          exact (Array.all_eq_true.1 hd) i hi'
        simp only [ho] at h1
        split
        · rename_i hw
          simp only [hw, if_true] at h1
          exact .inl (Oper.wp_mono (fun a' w' h2 => wpAny_of_P hX hd f _ _ _ h2.1 h2.2.2) (stepP.wp hX ha hdo h1))
        · rename_i hw
          simp only [hw] at h1
          exact wpAny_of_P hX hd f _ _ _ (ha.put hdo _) h1.2⟩
theorem ReadC.doesP {i : Nat} {o : Oper} {v : Value} {a : Act} {w : World} (hi : ops[i]? = some o) (hC : C w) (hy : ReadC P ops C o v a) {K : Act → World → Prop} (h : K (a.put o.dst v) w) : goesP P X ops i K a w := by
  unfold goesP
  simp only [hi]
  rcases hy with ⟨hw, hv⟩ | ⟨hw, rfl⟩
  · simp only [hw, if_true]
    have h1 := hv w hC
    unfold readW at h1
    unfold stepP
    generalize (execOp a.eval o).run P w = r at *
    cases r with
    | ok n w' =>
      cases n <;> simp only at h1 ⊢
      case value u => obtain ⟨rfl, rfl⟩ := h1; exact h
      case skip => obtain ⟨rfl, rfl⟩ := h1; exact h
    | halt x w' => simp only at h1
  · simp only [hw, Bool.false_eq_true, if_false]; exact h
/-- one operation apart from a read: it makes no difference whether the read's value is there already -/
theorem goesP_put {j : Nat} {oi oj : Oper} {v : Value} (hj : ops[j]? = some oj) (hap : oi.apart ops oj = true)
    (hsi : ∀ cs b, oi.op ≠ .select cs b) (hsj : ∀ cs b, oj.op ≠ .select cs b) {K : Act → World → Prop} {a : Act} {w : World}
    (hy : ReadC P ops C oi v a) (h : goesP P X ops j K (a.put oi.dst v) w) :
    goesP P X ops j (fun a' w' => ReadC P ops C oi v a' ∧ K (a'.put oi.dst v) w') a w := by
  obtain ⟨h1, h2, h3⟩ := Oper.apart_spec hap
  have keep : ∀ u, ReadC P ops C oi v (a.put oj.dst u) := fun u =>
    hy.of_same (execOp_put oi hsi a oj.dst u h3) (wanted_put oi a oj.dst u h3)
  have hcm : ∀ u, (a.put oi.dst v).put oj.dst u = (a.put oj.dst u).put oi.dst v := fun u => by rw [← Act.put_comm a v u h2]
  unfold goesP at *
  simp only [hj] at *
  rw [wanted_put oj a oi.dst v h1] at h
  split
  · rename_i hw
    simp only [hw, if_true] at h
    unfold stepP at *
    rw [execOp_put oj hsj a oi.dst v h1] at h
    generalize (execOp a.eval oj).run P w = r at *
    cases r with
    | ok n w' =>
      cases n <;> simp only at h ⊢
      case value u => exact ⟨keep u, by rw [← hcm u]; exact h⟩
      case skip => exact ⟨keep _, by rw [← hcm undef]; exact h⟩
      case enter f args => exact h.mono fun e w'' h => h.imp (fun ⟨u, he, hw''⟩ => ⟨u, he, keep u, by rw [← hcm u]; exact hw''⟩) id
    | halt x w' => simp only at h
  · rename_i hw
    simp only [hw] at h
    exact ⟨keep _, by rw [← hcm undef]; exact h⟩
theorem firstP {i : Nat} {oi : Oper} {v : Value} (hlate : ∀ j, late j = true → ∀ listed : Array Bool, listed.getD i true = false → j ∉ Region.ready md ops listed) (hi : ops[i]? = some oi) (hsel : ∀ (j : Nat) (o : Oper) cs b, ops[j]? = some o → o.op ≠ .select cs b) :
    ∀ (fuel : Nat) (listed : Array Bool) (a : Act) (w : World), C w →
      (∀ j oj, ops[j]? = some oj → j ≠ i → listed.getD j true = false → (∀ e ∈ oj.after, Region.binds md e = true → e.on ≠ i) → oi.apart ops oj = true) →
      i ∈ Region.ready md ops listed → ReadC P ops C oi v a →
      wpAnyP P X md ops C late Q fuel (listed.setIfInBounds i true) (a.put oi.dst v) w → wpAnyP P X md ops C late Q (fuel + 1) listed a w := by
  intro fuel
  induction fuel with
  | zero =>
    intro listed a w hC _ hr hy H
    refine ⟨fun h => (by rw [h] at hr; cases hr), fun j hj => ?_⟩
    by_cases hji : j = i
    · subst hji; exact hy.doesP hi hC ⟨fun _ => hC, H⟩
    · have := ready_mono hj hji
      rw [H.1] at this
      cases this
  | succ fuel ih =>
    intro listed a w hC hfree hr hy H
    refine ⟨fun h => (by rw [h] at hr; cases hr), fun j hj => ?_⟩
    by_cases hji : j = i
    · subst hji; exact hy.doesP hi hC ⟨fun _ => hC, H⟩
    · have h1 := H.2 j (ready_mono hj hji)
      obtain ⟨hjun, oj, hoj, hall⟩ := mem_ready.1 hj
      have hnot : ∀ e ∈ oj.after, Region.binds md e = true → e.on ≠ i := fun e he hb heq => by
        have h1 := hall e he hb
        have h0 := (mem_ready.1 hr).1
        rw [heq] at h1
        rcases Nat.lt_or_ge i listed.size with h' | h'
        · simp [h'] at h0 h1; rw [h0] at h1; cases h1
        · simp [Array.getElem?_eq_none h'] at h1
      have h2 := goesP_put hoj (hfree j oj hoj hji hjun hnot) (fun cs b => hsel i oi cs b hi) (fun cs b => hsel j oj cs b hoj) hy h1
      have hfree' : ∀ k ok, ops[k]? = some ok → k ≠ i → (listed.setIfInBounds j true).getD k true = false →
          (∀ e ∈ ok.after, Region.binds md e = true → e.on ≠ i) → oi.apart ops ok = true := fun k ok hk hki hun hno => by
        refine hfree k ok hk hki ?_ hno
        by_cases hjk : j = k
        · subst hjk; exact hjun
        · rw [getD_set_ne true hjk] at hun; exact hun
      have hjl : late j = false := by
        cases hl : late j with
        | false => rfl
        | true => exact absurd hj (hlate j hl listed (mem_ready.1 hr).1)
      refine goesP.mono (fun a' w' h3 => ⟨h3.2.1, ih (listed.setIfInBounds j true) a' w' (h3.2.1 hjl) hfree' (ready_mono hr (Ne.symm hji)) h3.1 ?_⟩) h2
      rw [Array.setIfInBounds_comm _ _ hji]
      exact h3.2.2

/-- the same for what does not look at the world -/
theorem firstPp {i : Nat} {oi : Oper} {v : Value} (hl : late i = true) (hi : ops[i]? = some oi) (hsel : ∀ (j : Nat) (o : Oper) cs b, ops[j]? = some o → o.op ≠ .select cs b) :
    ∀ (fuel : Nat) (listed : Array Bool) (a : Act) (w : World),
      (∀ j oj, ops[j]? = some oj → j ≠ i → listed.getD j true = false → (∀ e ∈ oj.after, Region.binds md e = true → e.on ≠ i) → oi.apart ops oj = true) →
      i ∈ Region.ready md ops listed → ReadC P ops (fun _ => True) oi v a →
      wpAnyP P X md ops C late Q fuel (listed.setIfInBounds i true) (a.put oi.dst v) w → wpAnyP P X md ops C late Q (fuel + 1) listed a w := by
  intro fuel
  induction fuel with
  | zero =>
    intro listed a w _ hr hy H
    refine ⟨fun h => (by rw [h] at hr; cases hr), fun j hj => ?_⟩
    by_cases hji : j = i
    · subst hji; exact hy.doesP hi trivial ⟨fun h => (by rw [hl] at h; cases h), H⟩
    · have := ready_mono hj hji
      rw [H.1] at this
      cases this
  | succ fuel ih =>
    intro listed a w hfree hr hy H
    refine ⟨fun h => (by rw [h] at hr; cases hr), fun j hj => ?_⟩
    by_cases hji : j = i
    · subst hji; exact hy.doesP hi trivial ⟨fun h => (by rw [hl] at h; cases h), H⟩
    · have h1 := H.2 j (ready_mono hj hji)
      obtain ⟨hjun, oj, hoj, hall⟩ := mem_ready.1 hj
      have hnot : ∀ e ∈ oj.after, Region.binds md e = true → e.on ≠ i := fun e he hb heq => by
        have h1 := hall e he hb
        have h0 := (mem_ready.1 hr).1
        rw [heq] at h1
        rcases Nat.lt_or_ge i listed.size with h' | h'
        · simp [h'] at h0 h1; rw [h0] at h1; cases h1
        · simp [Array.getElem?_eq_none h'] at h1
      have h2 := goesP_put hoj (hfree j oj hoj hji hjun hnot) (fun cs b => hsel i oi cs b hi) (fun cs b => hsel j oj cs b hoj) hy h1
      have hfree' : ∀ k ok, ops[k]? = some ok → k ≠ i → (listed.setIfInBounds j true).getD k true = false →
          (∀ e ∈ ok.after, Region.binds md e = true → e.on ≠ i) → oi.apart ops ok = true := fun k ok hk hki hun hno => by
        refine hfree k ok hk hki ?_ hno
        by_cases hjk : j = k
        · subst hjk; exact hjun
        · rw [getD_set_ne true hjk] at hun; exact hun
      refine goesP.mono (fun a' w' h3 => ⟨h3.2.1, ih (listed.setIfInBounds j true) a' w' hfree' (ready_mono hr (Ne.symm hji)) h3.1 ?_⟩) h2
      rw [Array.setIfInBounds_comm _ _ hji]
      exact h3.2.2

/-- a read is taken first -/
theorem LP.rd {f i : Nat} {o : Oper} {listed : Array Bool} {a : Act} {w : World} (hi : ops.toList[i]? = some o) (hb : (Region.noSelect ops && (Region.ready md ops listed).contains i && Region.free md ops listed i && lateB md ops late i) = true) (hC : C w) (hg : o.guard = none) {v : Value} (hy : ∀ W, C W → readW P o a W v)
    (h : wpAnyP P X md ops C late Q f (listed.setIfInBounds i true) (a.put o.dst v) w) : wpAnyP P X md ops C late Q (f + 1) listed a w := by
  rw [Array.getElem?_toList] at hi
  simp only [Bool.and_eq_true] at hb
  exact firstP (late_spec hb.2) hi (Region.noSelect_spec hb.1.1.1) f listed a w hC (Region.free_spec hi hb.1.2) (by simpa using hb.1.1.2) (.inl ⟨by simp [Region.wanted, hg], hy⟩) h
/-- a read behind what is late: it does not look at the world -/
theorem LP.rdl {f i : Nat} {o : Oper} {listed : Array Bool} {a : Act} {w : World} (hi : ops.toList[i]? = some o) (hb : (Region.noSelect ops && (Region.ready md ops listed).contains i && Region.free md ops listed i && late i) = true) (hg : o.guard = none) {v : Value} (hy : ∀ W, readW P o a W v)
    (h : wpAnyP P X md ops C late Q f (listed.setIfInBounds i true) (a.put o.dst v) w) : wpAnyP P X md ops C late Q (f + 1) listed a w := by
  rw [Array.getElem?_toList] at hi
  simp only [Bool.and_eq_true] at hb
  exact firstPp hb.2 hi (Region.noSelect_spec hb.1.1.1) f listed a w (Region.free_spec hi hb.1.2) (by simpa using hb.1.1.2) (.inl ⟨by simp [Region.wanted, hg], fun W _ => hy W⟩) h
/-- one alone may come up -/
theorem LP.one {f i : Nat} {o : Oper} {listed : Array Bool} {a : Act} {w : World} (hi : ops.toList[i]? = some o) (hb : decide (Region.ready md ops listed = [i]) = true) (hg : o.guard = none)
    (h : stepP P X o a w (fun a' w' => (late i = false → C w') ∧ wpAnyP P X md ops C late Q f (listed.setIfInBounds i true) a' w')) : wpAnyP P X md ops C late Q (f + 1) listed a w := by
  rw [Array.getElem?_toList] at hi
  have hb := of_decide_eq_true hb
  refine ⟨fun h => (by rw [hb] at h; cases h), fun j hj => ?_⟩
  rw [hb] at hj
  obtain rfl : j = i := by simpa using hj
  unfold goesP
  simp only [hi]
  rw [if_pos (by simp [Region.wanted, hg])]
  exact h
/-- one of two may come up -/
theorem LP.two {f i k : Nat} {o o' : Oper} {listed : Array Bool} {a : Act} {w : World} (hi : ops.toList[i]? = some o) (hk : ops.toList[k]? = some o') (hb : decide (Region.ready md ops listed = [i, k]) = true) (hg : o.guard = none) (hg' : o'.guard = none)
    (h : stepP P X o a w (fun a' w' => (late i = false → C w') ∧ wpAnyP P X md ops C late Q f (listed.setIfInBounds i true) a' w'))
    (h' : stepP P X o' a w (fun a' w' => (late k = false → C w') ∧ wpAnyP P X md ops C late Q f (listed.setIfInBounds k true) a' w')) : wpAnyP P X md ops C late Q (f + 1) listed a w := by
  rw [Array.getElem?_toList] at hi hk
  have hb := of_decide_eq_true hb
  refine ⟨fun h => (by rw [hb] at h; cases h), fun j hj => ?_⟩
  rw [hb] at hj
  have hj' : j = i ∨ j = k := by simpa using hj
  unfold goesP
  rcases hj' with rfl | rfl
  · simp only [hi]
    rw [if_pos (by simp [Region.wanted, hg])]
    exact h
  · simp only [hk]
    rw [if_pos (by simp [Region.wanted, hg'])]
    exact h'
theorem LP.done {f : Nat} {listed : Array Bool} {a : Act} {w : World} (hb : (Region.ready md ops listed).isEmpty = true) (h : Q .normal a w) : wpAnyP P X md ops C late Q f listed a w := by
  have hb := List.isEmpty_iff.1 hb
  cases f with
  | zero => exact ⟨hb, h⟩
  | succ f => exact ⟨fun _ => h, fun i hi => by rw [hb] at hi; cases hi⟩
/-- the region: whatever order the tape picks -/
theorem wp_region_p {id : Nat} {a : Act} {w : World} {l : List Oper} (C : World → Prop) (late : Nat → Bool) (hm : P.follows .mixedOrders = true) (hX : ∀ ch w a, X ch w → InvA D m T a → Q (.panic ch) a w) (hd : l.toArray.all (fun o => o.dst.all (fun d => decide (m ≤ d))) = true) (ha : InvA D m T a)
    (h : wpAnyP P X .any l.toArray C late Q l.toArray.size (Array.replicate l.toArray.size false) a w.drew) : (Code.region id l.toArray true).wp P Q a w :=
  wp_region_any hm (wpAny_of_P hX hd _ _ _ _ ha h)
end
end Go.Proofs.YtndhbdbfjkmloaaDoor
