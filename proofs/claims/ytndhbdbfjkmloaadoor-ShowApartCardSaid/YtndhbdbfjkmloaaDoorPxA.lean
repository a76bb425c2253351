/- Expressions as text, and how a text is read as one: plain. -/
import Derived.Test.YtndhbdbfjkmloaaDoorQcP
import Derived.Test.YtndhbdbfjkmloaaDoorQuoLaw
import Derived.Test.YtndhbdbfjkmloaaDoorExN
import Derived.Test.YtndhbdbfjkmloaaDoorExO
import Derived.Lib.Join
namespace Go.Proofs.YtndhbdbfjkmloaaDoor
open Go.RowKit

/-! the text -/
/-- how tight a kind holds -/
def lvl (k : Int) : Nat := if k = 6 then 1 else if k = 5 then 2 else if k = 10 ∨ k = 11 then 3 else if k = 7 ∨ k = 8 ∨ k = 9 then 4 else 5
def Ex.kindX : Ex → Int | .mk k _ _ _ _ _ _ => k
/-- within brackets, if it holds less tight than it must -/
def brk (e : Ex) (least : Nat) (s : List UInt8) : List UInt8 := if lvl e.kindX < least then 40 :: (s ++ [41]) else s
/-- the word of all bits -/
def wM : Int := 18446744073709551615
mutual
def txE : Ex → List UInt8
  | .mk k a b c d t ks =>
    if k = 1 then [40, 41]
    else if k = 2 then (if a = wM ∧ b = wM ∧ c = wM ∧ d = wM then [46] else clsAll [a.toNat, b.toNat, c.toNat, d.toNat])
    else if k = 3 then litL t.data.toList
    else if k = 4 then t.data.toList
    else if k = 10 then 38 :: (txL 3 ks).flatten
    else if k = 11 then 33 :: (txL 3 ks).flatten
    else if k = 7 then (txL 4 ks).flatten ++ [42]
    else if k = 8 then (txL 4 ks).flatten ++ [43]
    else if k = 9 then (txL 4 ks).flatten ++ [63]
    else if k = 6 then Lib.join (txL 2 ks) [32, 47, 32]
    else Lib.join (txL 3 ks) [32]
def txL (least : Nat) : List Ex → List (List UInt8)
  | [] => []
  | e :: es => brk e least (txE e) :: txL least es
end

/-! the signs of a text -/
/-- behind blanks and remarks (true: within a remark) -/
def skipL : Bool → List UInt8 → List UInt8
  | _, [] => []
  | false, c :: l => if c = 32 ∨ c = 9 ∨ c = 10 ∨ c = 13 then skipL false l else if c = 35 then skipL true l else c :: l
  | true, c :: l => if c = 10 then skipL false l else skipL true l
def isLD (c : Nat) : Bool := isLet c || isDig c
/-- how many letters and digits are ahead -/
def nameL : List UInt8 → Nat
  | [] => 0
  | c :: l => if isLD c.toNat then nameL l + 1 else 0
def eNil : Ex := .mk 1 0 0 0 0 ⟨#[]⟩ []
def eAny : Ex := .mk 2 wM wM wM wM ⟨#[]⟩ []
def eSet (w : List Nat) : Ex := .mk 2 (w.getD 0 0 : Nat) (w.getD 1 0 : Nat) (w.getD 2 0 : Nat) (w.getD 3 0 : Nat) ⟨#[]⟩ []
def eLit (t : List UInt8) : Ex := .mk 3 0 0 0 0 ⟨t.toArray⟩ []
def eRef (t : List UInt8) : Ex := .mk 4 0 0 0 0 ⟨t.toArray⟩ []
def notL (w : List Nat) : List Nat := w.map fun x => 18446744073709551615 - x
inductive Tok where
  | fin
  | bad
  | nd (e : Ex) (n : Nat)
  | sg (c : Nat) (n : Nat)
/-- what stands ahead -/
def tokL : List UInt8 → Tok
  | [] => .fin
  | c :: r =>
    if c = 39 ∨ c = 34 then
      match unl c.toNat sgU.data.toList (r.length + 1) r with
      | none => .bad
      | some (o, n) => .nd (if o = [] then eNil else eLit o) (n + 1)
    else if c = 91 then
      if bt r 0 = 94 then
        match unc (r.length + 2) (r.drop 1) [0, 0, 0, 0] with
        | none => .bad
        | some (w, n) => .nd (eSet (notL w)) (n + 2)
      else
        match unc (r.length + 2) r [0, 0, 0, 0] with
        | none => .bad
        | some (w, n) => .nd (eSet w) (n + 1)
    else if c = 46 then .nd eAny 1
    else if c = 40 ∨ c = 41 ∨ c = 47 ∨ c = 38 ∨ c = 33 ∨ c = 63 ∨ c = 42 ∨ c = 43 then .sg c.toNat 1
    else if c = 60 ∧ bt r 0 = 45 then .sg 60 2
    else if isLet c.toNat then .nd (eRef ((c :: r).take (nameL (c :: r)))) (nameL (c :: r))
    else .bad
def Tok.isBad : Tok → Bool | .bad => true | _ => false
/-- on behind a sign of n bytes -/
def goL (l : List UInt8) (n : Nat) : List UInt8 := skipL false (l.drop n)
/-- is it a name behind which an arrow comes? -/
def namesL (h : Bool) (l : List UInt8) : Bool := match tokL l with
  | .nd e n => h && (decide (e.kindX = 4) && decide ((goL l n).take 2 = [60, 45]))
  | _ => false
/-- may an expression begin here? -/
def begL (h : Bool) (l : List UInt8) : Bool := match tokL l with
  | .nd _ _ => !namesL h l
  | .sg c _ => decide (c = 40 ∨ c = 38 ∨ c = 33)
  | _ => false

/-! reading -/
/-- what is read, and what is left; or where it can't be read -/
inductive Rs where
  | ok (e : Ex) (l : List UInt8)
  | no (l : List UInt8)
inductive Pj where
  | alt
  | altL (acc : List Ex)
  | seq
  | seqL (acc : List Ex)
  | pre
  | post (e : Ex)
  | pri
def oneOr (k : Int) : List Ex → Ex
  | [e] => e
  | acc => .mk k 0 0 0 0 ⟨#[]⟩ acc
def thenGo (l : List UInt8) (n : Nat) (k : List UInt8 → Option Rs) : Option Rs := if (tokL (goL l n)).isBad = true then some (.no (goL l n)) else k (goL l n)
def bindR : Option Rs → (Ex → List UInt8 → Option Rs) → Option Rs
  | none, _ => none
  | some (.no l), _ => some (.no l)
  | some (.ok e l), k => k e l
def postK (c : Nat) : Int := if c = 63 then 9 else if c = 42 then 7 else 8
def rdJ (h : Bool) : Nat → Pj → List UInt8 → Option Rs
  | 0, _, _ => none
  | f + 1, .alt, l => bindR (rdJ h f .seq l) fun e l1 => rdJ h f (.altL [e]) l1
  | f + 1, .altL acc, l => match tokL l with
    | .sg c n => if c = 47 then thenGo l n fun l1 => bindR (rdJ h f .seq l1) fun e l2 => rdJ h f (.altL (acc ++ [e])) l2 else some (.ok (oneOr 6 acc) l)
    | _ => some (.ok (oneOr 6 acc) l)
  | f + 1, .seq, l => bindR (rdJ h f .pre l) fun e l1 => rdJ h f (.seqL [e]) l1
  | f + 1, .seqL acc, l => if begL h l = true then bindR (rdJ h f .pre l) fun e l1 => rdJ h f (.seqL (acc ++ [e])) l1 else some (.ok (oneOr 5 acc) l)
  | f + 1, .pre, l => match tokL l with
    | .sg c n => if c = 38 ∨ c = 33 then thenGo l n fun l1 => bindR (rdJ h f .pre l1) fun e l2 => some (.ok (.mk (if c = 38 then 10 else 11) 0 0 0 0 ⟨#[]⟩ [e]) l2) else bindR (rdJ h f .pri l) fun e l1 => rdJ h f (.post e) l1
    | _ => bindR (rdJ h f .pri l) fun e l1 => rdJ h f (.post e) l1
  | f + 1, .post e, l => match tokL l with
    | .sg c n => if c = 63 ∨ c = 42 ∨ c = 43 then thenGo l n fun l1 => rdJ h f (.post (.mk (postK c) 0 0 0 0 ⟨#[]⟩ [e])) l1 else some (.ok e l)
    | _ => some (.ok e l)
  | f + 1, .pri, l => if begL h l = true then
      match tokL l with
      | .nd e n => thenGo l n fun l1 => some (.ok e l1)
      | .sg c n => if c = 40 then thenGo l n fun l1 =>
          match tokL l1 with
          | .sg c1 n1 => if c1 = 41 then thenGo l1 n1 fun l2 => some (.ok eNil l2) else bindR (rdJ h f .alt l1) fun e l2 => match tokL l2 with
            | .sg c2 n2 => if c2 = 41 then thenGo l2 n2 fun l3 => some (.ok e l3) else some (.no l2)
            | _ => some (.no l2)
          | _ => bindR (rdJ h f .alt l1) fun e l2 => match tokL l2 with
            | .sg c2 n2 => if c2 = 41 then thenGo l2 n2 fun l3 => some (.ok e l3) else some (.no l2)
            | _ => some (.no l2)
        else some (.no l)
      | _ => some (.no l)
    else some (.no l)

theorem bindR_mono {x x' : Option Rs} {k k' : Ex → List UInt8 → Option Rs} (hx : ∀ R, x = some R → x' = some R) (hk : ∀ e l R, k e l = some R → k' e l = some R) {R : Rs} (h : bindR x k = some R) : bindR x' k' = some R := by
  cases x with
  | none => cases h
  | some y =>
    rw [hx y rfl]
    cases y with
    | no l => exact h
    | ok e l => exact hk e l R h
theorem thenGo_mono {l : List UInt8} {n : Nat} {k k' : List UInt8 → Option Rs} (hk : ∀ l R, k l = some R → k' l = some R) {R : Rs} (h : thenGo l n k = some R) : thenGo l n k' = some R := by
  unfold thenGo at h ⊢
  split at h
  · rw [if_pos (by assumption)]; exact h
  · rw [if_neg (by assumption)]; exact hk _ _ h
theorem rdJ_succ (h : Bool) : ∀ (f : Nat) (j : Pj) (l : List UInt8) (R : Rs), rdJ h f j l = some R → rdJ h (f + 1) j l = some R := by
  intro f
  induction f with
  | zero => intro j l R hR; cases hR
  | succ f ih =>
    intro j l R hR
    cases j with
    | alt => rw [rdJ] at hR ⊢; exact bindR_mono (ih _ _) (fun _ _ => ih _ _) hR
    | altL acc =>
      rw [rdJ] at hR ⊢
      cases ht : tokL l with
      | sg c n =>
        rw [ht] at hR
        simp only at hR ⊢
        split at hR
        · rw [if_pos (by assumption)]
          exact thenGo_mono (fun _ _ h => bindR_mono (ih _ _) (fun _ _ => ih _ _) h) hR
        · rw [if_neg (by assumption)]; exact hR
      | _ => rw [ht] at hR; exact hR
    | seq => rw [rdJ] at hR ⊢; exact bindR_mono (ih _ _) (fun _ _ => ih _ _) hR
    | seqL acc =>
      rw [rdJ] at hR ⊢
      split at hR
      · rw [if_pos (by assumption)]; exact bindR_mono (ih _ _) (fun _ _ => ih _ _) hR
      · rw [if_neg (by assumption)]; exact hR
    | pre =>
      rw [rdJ] at hR ⊢
      cases ht : tokL l with
      | sg c n =>
        rw [ht] at hR
        simp only at hR ⊢
        split at hR
        · rw [if_pos (by assumption)]
          exact thenGo_mono (fun _ _ h => bindR_mono (ih _ _) (fun _ _ _ h => h) h) hR
        · rw [if_neg (by assumption)]; exact bindR_mono (ih _ _) (fun _ _ => ih _ _) hR
      | _ => rw [ht] at hR; exact bindR_mono (ih _ _) (fun _ _ => ih _ _) hR
    | post e =>
      rw [rdJ] at hR ⊢
      cases ht : tokL l with
      | sg c n =>
        rw [ht] at hR
        simp only at hR ⊢
        split at hR
        · rw [if_pos (by assumption)]
          exact thenGo_mono (fun _ => ih _ _) hR
        · rw [if_neg (by assumption)]; exact hR
      | _ => rw [ht] at hR; exact hR
    | pri =>
      rw [rdJ] at hR ⊢
      split at hR
      · rw [if_pos (by assumption)]
        cases ht : tokL l with
        | sg c n =>
          rw [ht] at hR
          simp only at hR ⊢
          split at hR
          · rw [if_pos (by assumption)]
            refine thenGo_mono (fun l1 R h => ?_) hR
            cases ht1 : tokL l1 with
            | sg c1 n1 =>
              rw [ht1] at h
              simp only at h ⊢
              split at h
              · rw [if_pos (by assumption)]; exact h
              · rw [if_neg (by assumption)]; exact bindR_mono (ih _ _) (fun _ _ _ h => h) h
            | _ => rw [ht1] at h; exact bindR_mono (ih _ _) (fun _ _ _ h => h) h
          · rw [if_neg (by assumption)]; exact hR
        | _ => rw [ht] at hR; exact hR
      · rw [if_neg (by assumption)]; exact hR
theorem rdJ_le {h : Bool} {f f' : Nat} (hf : f ≤ f') {j : Pj} {l : List UInt8} {R : Rs} (hR : rdJ h f j l = some R) : rdJ h f' j l = some R := by
  induction hf with
  | refl => exact hR
  | step _ ih => exact rdJ_succ h _ _ _ _ ih
/-- it is read so -/
def Rd (h : Bool) (j : Pj) (l : List UInt8) (R : Rs) : Prop := ∃ f, rdJ h f j l = some R
theorem Rd.uniq {h : Bool} {j : Pj} {l : List UInt8} {R R' : Rs} : Rd h j l R → Rd h j l R' → R = R'
  | ⟨f, hf⟩, ⟨f', hf'⟩ => by
    have h1 := rdJ_le (Nat.le_max_left f f') hf
    have h2 := rdJ_le (Nat.le_max_right f f') hf'
    rw [h1] at h2
    exact Option.some.inj h2
end Go.Proofs.YtndhbdbfjkmloaaDoor
