/- Expressions as text, and how a text is read as one: plain. A class that was written is read as it was: plain. Signs of a text, one by one: plain. What is printed is read as it was: plain. -/
import Derived.Test.YtndhbdbfjkmloaaDoorJTopText1
import Derived.Test.YtndhbdbfjkmloaaDoorJTopText2
import Derived.Lib.Join
namespace Go.Proofs.YtndhbdbfjkmloaaDoor
set_option maxRecDepth 100000
open Go.RowKit
def lvl (k : Int) : Nat := if k = 6 then 1 else if k = 5 then 2 else if k = 10 \/ k = 11 then 3 else if k = 7 \/ k = 8 \/ k = 9 then 4 else 5
def Ex.kindX : Ex -> Int | .mk k _ _ _ _ _ _ => k
def brk (e : Ex) (least : Nat) (s : List UInt8) : List UInt8 := if lvl e.kindX < least then 40 :: (s ++ [41]) else s
def wM : Int := 18446744073709551615
mutual
def txE : Ex -> List UInt8
  | .mk k a b c d t ks =>
    if k = 1 then [40, 41]
    else if k = 2 then (if a = wM /\ b = wM /\ c = wM /\ d = wM then [46] else clsAll [a.toNat, b.toNat, c.toNat, d.toNat])
    else if k = 3 then litL t.data.toList
    else if k = 4 then t.data.toList
    else if k = 10 then 38 :: (txL 3 ks).flatten
    else if k = 11 then 33 :: (txL 3 ks).flatten
    else if k = 7 then (txL 4 ks).flatten ++ [42]
    else if k = 8 then (txL 4 ks).flatten ++ [43]
    else if k = 9 then (txL 4 ks).flatten ++ [63]
    else if k = 6 then Lib.join (txL 2 ks) [32, 47, 32]
    else Lib.join (txL 3 ks) [32]
def txL (least : Nat) : List Ex -> List (List UInt8)
  | [] => []
  | e :: es => brk e least (txE e) :: txL least es
end
def skipL : Bool -> List UInt8 -> List UInt8
  | _, [] => []
  | false, c :: l => if c = 32 \/ c = 9 \/ c = 10 \/ c = 13 then skipL false l else if c = 35 then skipL true l else c :: l
  | true, c :: l => if c = 10 then skipL false l else skipL true l
def isLD (c : Nat) : Bool := isLet c || isDig c
def nameL : List UInt8 -> Nat
  | [] => 0
  | c :: l => if isLD c.toNat then nameL l + 1 else 0
def eNil : Ex := .mk 1 0 0 0 0 ⟨#[]⟩ []
def eAny : Ex := .mk 2 wM wM wM wM ⟨#[]⟩ []
def eSet (w : List Nat) : Ex := .mk 2 (w.getD 0 0 : Nat) (w.getD 1 0 : Nat) (w.getD 2 0 : Nat) (w.getD 3 0 : Nat) ⟨#[]⟩ []
def eLit (t : List UInt8) : Ex := .mk 3 0 0 0 0 ⟨t.toArray⟩ []
def eRef (t : List UInt8) : Ex := .mk 4 0 0 0 0 ⟨t.toArray⟩ []
def notL (w : List Nat) : List Nat := w.map fun x => 18446744073709551615 - x
inductive Tok where
  | fin
  | bad
  | nd (e : Ex) (n : Nat)
  | sg (c : Nat) (n : Nat)
def tokL : List UInt8 -> Tok
  | [] => .fin
  | c :: r =>
    if c = 39 \/ c = 34 then
      match unl c.toNat sgU.data.toList (r.length + 1) r with
      | none => .bad
      | some (o, n) => .nd (if o = [] then eNil else eLit o) (n + 1)
    else if c = 91 then
      if bt r 0 = 94 then
        match unc (r.length + 2) (r.drop 1) [0, 0, 0, 0] with
        | none => .bad
        | some (w, n) => .nd (eSet (notL w)) (n + 2)
      else
        match unc (r.length + 2) r [0, 0, 0, 0] with
        | none => .bad
        | some (w, n) => .nd (eSet w) (n + 1)
    else if c = 46 then .nd eAny 1
    else if c = 40 \/ c = 41 \/ c = 47 \/ c = 38 \/ c = 33 \/ c = 63 \/ c = 42 \/ c = 43 then .sg c.toNat 1
    else if c = 60 /\ bt r 0 = 45 then .sg 60 2
    else if isLet c.toNat then .nd (eRef ((c :: r).take (nameL (c :: r)))) (nameL (c :: r))
    else .bad
def Tok.isBad : Tok -> Bool | .bad => true | _ => false
def goL (l : List UInt8) (n : Nat) : List UInt8 := skipL false (l.drop n)
def namesL (h : Bool) (l : List UInt8) : Bool := match tokL l with
  | .nd e n => h && (decide (e.kindX = 4) && decide ((goL l n).take 2 = [60, 45]))
  | _ => false
def begL (h : Bool) (l : List UInt8) : Bool := match tokL l with
  | .nd _ _ => !namesL h l
  | .sg c _ => decide (c = 40 \/ c = 38 \/ c = 33)
  | _ => false
inductive Rs where
  | ok (e : Ex) (l : List UInt8)
  | no (l : List UInt8)
inductive Pj where
  | alt
  | altL (acc : List Ex)
  | seq
  | seqL (acc : List Ex)
  | pre
  | post (e : Ex)
  | pri
def oneOr (k : Int) : List Ex -> Ex
  | [e] => e
  | acc => .mk k 0 0 0 0 ⟨#[]⟩ acc
def thenGo (l : List UInt8) (n : Nat) (k : List UInt8 -> Option Rs) : Option Rs := if (tokL (goL l n)).isBad = true then some (.no (goL l n)) else k (goL l n)
def bindR : Option Rs -> (Ex -> List UInt8 -> Option Rs) -> Option Rs
  | none, _ => none
  | some (.no l), _ => some (.no l)
  | some (.ok e l), k => k e l
def postK (c : Nat) : Int := if c = 63 then 9 else if c = 42 then 7 else 8
def rdJ (h : Bool) : Nat -> Pj -> List UInt8 -> Option Rs
  | 0, _, _ => none
  | f + 1, .alt, l => bindR (rdJ h f .seq l) fun e l1 => rdJ h f (.altL [e]) l1
  | f + 1, .altL acc, l => match tokL l with
    | .sg c n => if c = 47 then thenGo l n fun l1 => bindR (rdJ h f .seq l1) fun e l2 => rdJ h f (.altL (acc ++ [e])) l2 else some (.ok (oneOr 6 acc) l)
    | _ => some (.ok (oneOr 6 acc) l)
  | f + 1, .seq, l => bindR (rdJ h f .pre l) fun e l1 => rdJ h f (.seqL [e]) l1
  | f + 1, .seqL acc, l => if begL h l = true then bindR (rdJ h f .pre l) fun e l1 => rdJ h f (.seqL (acc ++ [e])) l1 else some (.ok (oneOr 5 acc) l)
  | f + 1, .pre, l => match tokL l with
    | .sg c n => if c = 38 \/ c = 33 then thenGo l n fun l1 => bindR (rdJ h f .pre l1) fun e l2 => some (.ok (.mk (if c = 38 then 10 else 11) 0 0 0 0 ⟨#[]⟩ [e]) l2) else bindR (rdJ h f .pri l) fun e l1 => rdJ h f (.post e) l1
    | _ => bindR (rdJ h f .pri l) fun e l1 => rdJ h f (.post e) l1
  | f + 1, .post e, l => match tokL l with
    | .sg c n => if c = 63 \/ c = 42 \/ c = 43 then thenGo l n fun l1 => rdJ h f (.post (.mk (postK c) 0 0 0 0 ⟨#[]⟩ [e])) l1 else some (.ok e l)
    | _ => some (.ok e l)
  | f + 1, .pri, l => if begL h l = true then
      match tokL l with
      | .nd e n => thenGo l n fun l1 => some (.ok e l1)
      | .sg c n => if c = 40 then thenGo l n fun l1 =>
          match tokL l1 with
          | .sg c1 n1 => if c1 = 41 then thenGo l1 n1 fun l2 => some (.ok eNil l2) else bindR (rdJ h f .alt l1) fun e l2 => match tokL l2 with
            | .sg c2 n2 => if c2 = 41 then thenGo l2 n2 fun l3 => some (.ok e l3) else some (.no l2)
            | _ => some (.no l2)
          | _ => bindR (rdJ h f .alt l1) fun e l2 => match tokL l2 with
            | .sg c2 n2 => if c2 = 41 then thenGo l2 n2 fun l3 => some (.ok e l3) else some (.no l2)
            | _ => some (.no l2)
        else some (.no l)
      | _ => some (.no l)
    else some (.no l)
theorem bindR_mono {x x' : Option Rs} {k k' : Ex -> List UInt8 -> Option Rs} (hx : ∀ R, x = some R -> x' = some R) (hk : ∀ e l R, k e l = some R -> k' e l = some R) {R : Rs} (h : bindR x k = some R) : bindR x' k' = some R := by
  cases x with
  | none => cases h
  | some y =>
    rw [hx y rfl]
    cases y with
    | no l => exact h
    | ok e l => exact hk e l R h
theorem thenGo_mono {l : List UInt8} {n : Nat} {k k' : List UInt8 -> Option Rs} (hk : ∀ l R, k l = some R -> k' l = some R) {R : Rs} (h : thenGo l n k = some R) : thenGo l n k' = some R := by
  unfold thenGo at h ⊢
  split at h
  · rw [if_pos (by assumption)]; exact h
  · rw [if_neg (by assumption)]; exact hk _ _ h
theorem rdJ_succ (h : Bool) : ∀ (f : Nat) (j : Pj) (l : List UInt8) (R : Rs), rdJ h f j l = some R -> rdJ h (f + 1) j l = some R := by
  intro f
  induction f with
  | zero => intro j l R hR; cases hR
  | succ f ih =>
    intro j l R hR
    cases j with
    | alt => rw [rdJ] at hR ⊢; exact bindR_mono (ih _ _) (fun _ _ => ih _ _) hR
    | altL acc =>
      rw [rdJ] at hR ⊢
      cases ht : tokL l with
      | sg c n =>
        rw [ht] at hR
        simp only at hR ⊢
        split at hR
        · rw [if_pos (by assumption)]
          exact thenGo_mono (fun _ _ h => bindR_mono (ih _ _) (fun _ _ => ih _ _) h) hR
        · rw [if_neg (by assumption)]; exact hR
      | _ => rw [ht] at hR; exact hR
    | seq => rw [rdJ] at hR ⊢; exact bindR_mono (ih _ _) (fun _ _ => ih _ _) hR
    | seqL acc =>
      rw [rdJ] at hR ⊢
      split at hR
      · rw [if_pos (by assumption)]; exact bindR_mono (ih _ _) (fun _ _ => ih _ _) hR
      · rw [if_neg (by assumption)]; exact hR
    | pre =>
      rw [rdJ] at hR ⊢
      cases ht : tokL l with
      | sg c n =>
        rw [ht] at hR
        simp only at hR ⊢
        split at hR
        · rw [if_pos (by assumption)]
          exact thenGo_mono (fun _ _ h => bindR_mono (ih _ _) (fun _ _ _ h => h) h) hR
        · rw [if_neg (by assumption)]; exact bindR_mono (ih _ _) (fun _ _ => ih _ _) hR
      | _ => rw [ht] at hR; exact bindR_mono (ih _ _) (fun _ _ => ih _ _) hR
    | post e =>
      rw [rdJ] at hR ⊢
      cases ht : tokL l with
      | sg c n =>
        rw [ht] at hR
        simp only at hR ⊢
        split at hR
        · rw [if_pos (by assumption)]
          exact thenGo_mono (fun _ => ih _ _) hR
        · rw [if_neg (by assumption)]; exact hR
      | _ => rw [ht] at hR; exact hR
    | pri =>
      rw [rdJ] at hR ⊢
      split at hR
      · rw [if_pos (by assumption)]
        cases ht : tokL l with
        | sg c n =>
          rw [ht] at hR
          simp only at hR ⊢
          split at hR
          · rw [if_pos (by assumption)]
            refine thenGo_mono (fun l1 R h => ?_) hR
            cases ht1 : tokL l1 with
            | sg c1 n1 =>
              rw [ht1] at h
              simp only at h ⊢
              split at h
              · rw [if_pos (by assumption)]; exact h
              · rw [if_neg (by assumption)]; exact bindR_mono (ih _ _) (fun _ _ _ h => h) h
            | _ => rw [ht1] at h; exact bindR_mono (ih _ _) (fun _ _ _ h => h) h
          · rw [if_neg (by assumption)]; exact hR
        | _ => rw [ht] at hR; exact hR
      · rw [if_neg (by assumption)]; exact hR
theorem rdJ_le {h : Bool} {f f' : Nat} (hf : f <= f') {j : Pj} {l : List UInt8} {R : Rs} (hR : rdJ h f j l = some R) : rdJ h f' j l = some R := by
  induction hf with
  | refl => exact hR
  | step _ ih => exact rdJ_succ h _ _ _ _ ih
def Rd (h : Bool) (j : Pj) (l : List UInt8) (R : Rs) : Prop := ∃ f, rdJ h f j l = some R
theorem Rd.uniq {h : Bool} {j : Pj} {l : List UInt8} {R R' : Rs} : Rd h j l R -> Rd h j l R' -> R = R'
  | ⟨f, hf⟩, ⟨f', hf'⟩ => by
    have h1 := rdJ_le (Nat.le_max_left f f') hf
    have h2 := rdJ_le (Nat.le_max_right f f') hf'
    rw [h1] at h2
    exact Option.some.inj h2
theorem enc_c (n : Nat) (h : n < 256) : nextN sgC (enc true n) = (n, (enc true n).length) /\ bt (enc true n) 0 ≠ 93 /\ bt (enc true n) 0 ≠ 45 /\ bt (enc true n) 0 ≠ 94 /\ 0 < (enc true n).length := by
  have h' : ∀ n : Fin 256, nextN sgC (enc true n.val) = (n.val, (enc true n.val).length) /\ bt (enc true n.val) 0 ≠ 93 /\ bt (enc true n.val) 0 ≠ 45 /\ bt (enc true n.val) 0 ≠ 94 /\ 0 < (enc true n.val).length := by decide +kernel
  exact h' ⟨n, h⟩
theorem unc_step (f : Nat) {l : List UInt8} (acc : List Nat) (hl : l ≠ []) (h93 : bt l 0 ≠ 93) {b n : Nat} (hn : nextN sgC l = (b, n)) (hn0 : n ≠ 0) : unc (f + 1) l acc =
      if 1 < (l.drop n).length /\ bt (l.drop n) 0 = 45 /\ bt (l.drop n) 1 ≠ 93 then
        if (nextN sgC (l.drop (n + 1))).2 = 0 \/ (nextN sgC (l.drop (n + 1))).1 < b then none
        else (unc f (l.drop (n + 1 + (nextN sgC (l.drop (n + 1))).2)) (orW acc (rangeL b ((nextN sgC (l.drop (n + 1))).1 + 1 - b)))).map fun x => (x.1, n + 1 + (nextN sgC (l.drop (n + 1))).2 + x.2)
      else (unc f (l.drop n) (orW acc (rangeL b 1))).map fun x => (x.1, n + x.2) := by
  cases l with
  | nil => exact absurd rfl hl
  | cons x l => rw [unc.eq_def]; dsimp only; rw [if_neg h93, hn]; dsimp only; rw [if_neg hn0]
theorem unc_one (f : Nat) {b : Nat} (hb : b < 256) (t : List UInt8) (ht : bt t 0 ≠ 45) (acc : List Nat) :
    unc (f + 1) (enc true b ++ t) acc = (unc f t (orW acc (rangeL b 1))).map fun x => (x.1, (enc true b).length + x.2) := by
  obtain ⟨h1, h2, h3, _, h5⟩ := enc_c b hb
  have hne : enc true b ≠ [] := fun e => by rw [e] at h5; simp at h5
  have hn : nextN sgC (enc true b ++ t) = (b, (enc true b).length) := by rw [nextN_app (by rw [h1]; simp only; omega) hne, h1]
  rw [unc_step f acc (by simp [hne]) (by rw [bt_app h5]; exact h2) hn (by omega), List.drop_left, if_neg (fun h => ht h.2.1)]
theorem unc_two (f : Nat) {b h : Nat} (hb : b < 256) (hh : h < 256) (hbh : b < h) (t : List UInt8) (acc : List Nat) :
    unc (f + 1) (enc true b ++ 45 :: (enc true h ++ t)) acc = (unc f t (orW acc (rangeL b (h + 1 - b)))).map fun x => (x.1, (enc true b).length + 1 + (enc true h).length + x.2) := by
  obtain ⟨h1, h2, h3, _, h5⟩ := enc_c b hb
  obtain ⟨k1, k2, k3, _, k5⟩ := enc_c h hh
  have hne : enc true b ≠ [] := fun e => by rw [e] at h5; simp at h5
  have kne : enc true h ≠ [] := fun e => by rw [e] at k5; simp at k5
  have hn : nextN sgC (enc true b ++ 45 :: (enc true h ++ t)) = (b, (enc true b).length) := by rw [nextN_app (by rw [h1]; simp only; omega) hne, h1]
  have kn : nextN sgC (enc true h ++ t) = (h, (enc true h).length) := by rw [nextN_app (by rw [k1]; simp only; omega) kne, k1]
  have d1 : (enc true b ++ 45 :: (enc true h ++ t)).drop ((enc true b).length + 1) = enc true h ++ t := by
    rw [<- List.drop_drop, List.drop_left]; rfl
  have d2 : (enc true b ++ 45 :: (enc true h ++ t)).drop ((enc true b).length + 1 + (enc true h).length) = t := by
    rw [<- List.drop_drop, d1, List.drop_left]
  rw [unc_step f acc (by simp [hne]) (by rw [bt_app h5]; exact h2) hn (by omega), List.drop_left, if_pos, d1, kn]
  · dsimp only
    rw [if_neg (by omega), d2]
  · refine ⟨by simp; omega, rfl, ?_⟩
    have : bt (45 :: (enc true h ++ t)) 1 = bt (enc true h ++ t) 0 := rfl
    rw [this, bt_app k5]
    exact k2
theorem clsT_head (l : List Nat) (more : List UInt8) (k : Nat) (f : Nat) (hf : f <= 256) : bt (clsT l k (fstB l f) ++ 93 :: more) 0 ≠ 45 /\ bt (clsT l k (fstB l f) ++ 93 :: more) 0 ≠ 94 := by
  have e93 : bt (([] : List UInt8) ++ 93 :: more) 0 = 93 := rfl
  cases k with
  | zero => rw [clsT, e93]; decide
  | succ k =>
    rw [clsT]
    split
    · rw [e93]; decide
    · rename_i h
      rcases fstB_is l f hf with ⟨b, e, _, h2, _, _⟩ | ⟨e, _⟩
      · rw [e]
        obtain ⟨_, _, h3, h4, h5⟩ := enc_c b h2
        have : ∀ x y z : List UInt8, bt (enc true b ++ x ++ y ++ z) 0 = bt (enc true b) 0 := fun x y z => by
          rw [List.append_assoc, List.append_assoc, bt_app h5]
        unfold piece
        rw [show (b : Int).toNat = b from rfl, this]
        exact ⟨h3, h4⟩
      · omega
theorem orW_words {l l' : List Nat} (h : Words l) (h' : Words l') : Words (orW l l') := by
  have e : ∀ {a b : Nat}, a < 18446744073709551616 -> b < 18446744073709551616 -> a ||| b < 18446744073709551616 := fun {a b} ha hb => by
    have := Nat.or_lt_two_pow (n := 64) (x := a) (y := b) (by simpa using ha) (by simpa using hb)
    simpa using this
  intro i
  match i with
  | 0 => exact e (h 0) (h' 0)
  | 1 => exact e (h 1) (h' 1)
  | 2 => exact e (h 2) (h' 2)
  | 3 => exact e (h 3) (h' 3)
  | i + 4 => simp [orW]
theorem rangeL_words (lo n : Nat) : Words (rangeL lo n) := fun i => rangeL_lt lo n i
theorem unc_cls (l : List Nat) (more : List UInt8) : ∀ (k f F : Nat) (acc : List Nat), f <= 256 -> 257 <= k + f -> (clsT l k (fstB l f)).length < F -> Words acc -> acc.length = 4 ->
    ∃ o, unc F (clsT l k (fstB l f) ++ 93 :: more) acc = some (o, (clsT l k (fstB l f)).length + 1) /\ o.length = 4 /\ Words o /\ ∀ j, j < 256 -> hasN o j = (hasN acc j || (decide (f <= j) && hasN l j))
  | 0, f, F, acc, hf, hk, _, _, _ => by omega
  | k + 1, f, F, acc, hf, hk, hF, hw, ha => by
    have hfst := fstB_is l f hf
    obtain ⟨F', rfl⟩ : ∃ F', F = F' + 1 := ⟨F - 1, by omega⟩
    rw [clsT] at hF ⊢
    rcases hfst with ⟨b, e, h1, h2, h3, h4⟩ | ⟨e, h1⟩
    · rw [e] at hF ⊢
      rw [if_neg (by omega)] at hF ⊢
      rw [show (b : Int).toNat = b from rfl] at hF ⊢
      obtain ⟨r1, r2, r3, r4⟩ := runB_is l b (by omega)
      generalize runB l b = h at r1 r2 r3 r4 hF ⊢
      have hd := clsT_head l more k (h + 1) (by omega)
      have ih := fun F acc => unc_cls l more k (h + 1) F acc (by omega) (by omega)
      obtain ⟨_, b2, b3, _, b5⟩ := enc_c b h2
      have hin : ∀ j, j < 256 -> (decide (b <= j /\ j < b + (h + 1 - b)) || (decide (h + 1 <= j) && hasN l j)) = (decide (f <= j) && hasN l j) := fun j hj => by
        rcases Nat.lt_or_ge j b with c1 | c1
        · have a1 : ¬ (b <= j /\ j < b + (h + 1 - b)) := by omega
          have a2 : ¬ (h + 1 <= j) := by omega
          rw [decide_eq_false a1, decide_eq_false a2]
          rcases Nat.lt_or_ge j f with c2 | c2
          · have a3 : ¬ (f <= j) := by omega
            rw [decide_eq_false a3]; rfl
          · rw [h4 j c2 c1]; simp
        · rcases Nat.lt_or_ge h j with c2 | c2
          · have a1 : ¬ (b <= j /\ j < b + (h + 1 - b)) := by omega
            rw [decide_eq_false a1, decide_eq_true (show h + 1 <= j by omega), decide_eq_true (show f <= j by omega)]; simp
          · have a1 : b <= j /\ j < b + (h + 1 - b) := by omega
            have a2 : hasN l j = true := by
              rcases Nat.eq_or_lt_of_le c1 with c3 | c3
              · rw [<- c3]; exact h3
              · exact r3 j c3 c2
            rw [decide_eq_true a1, a2, decide_eq_true (show f <= j by omega)]; simp
      unfold piece at hF ⊢
      by_cases c1 : h = b + 1
      · rw [if_pos c1] at hF ⊢
        obtain ⟨_, k2, k3, _, k5⟩ := enc_c h (by omega)
        simp only [List.length_append] at hF
        obtain ⟨F2, rfl⟩ : ∃ F2, F' = F2 + 1 := ⟨F' - 1, by omega⟩
        obtain ⟨o, ho, h6, h7, h8⟩ := ih F2 (orW (orW acc (rangeL b 1)) (rangeL h 1)) (by omega) (orW_words (orW_words hw (rangeL_words _ _)) (rangeL_words _ _)) rfl
        refine ⟨o, ?_, h6, h7, fun j hj => ?_⟩
        · rw [List.append_assoc, List.append_assoc, unc_one _ h2 _ (by rw [bt_app k5]; exact k3), unc_one _ (by omega) _ hd.1, ho]
          simp only [Option.map_some, List.length_append]
          congr 2
          omega
        · rw [h8 j hj, <- hin j hj, orW_has _ _ hj, orW_has _ _ hj, rangeL_has _ _ (by omega) j hj, rangeL_has _ _ (by omega) j hj]
          rw [Bool.eq_iff_iff]
          simp only [Bool.or_eq_true, Bool.and_eq_true, decide_eq_true_iff]
          constructor
          · rintro (((h9 | h9) | h9) | h9)
            · exact .inl h9
            · exact .inr (.inl (by omega))
            · exact .inr (.inl (by omega))
            · exact .inr (.inr h9)
          · rintro (h9 | h9 | h9)
            · exact .inl (.inl (.inl h9))
            · rcases Nat.lt_or_ge j h with c | c
              · exact .inl (.inl (.inr (by omega)))
              · exact .inl (.inr (by omega))
            · exact .inr h9
      · rw [if_neg c1] at hF ⊢
        by_cases c2 : b < h
        · rw [if_pos c2] at hF ⊢
          simp only [List.length_append, List.length_cons] at hF
          obtain ⟨o, ho, h6, h7, h8⟩ := ih F' (orW acc (rangeL b (h + 1 - b))) (by omega) (orW_words hw (rangeL_words _ _)) rfl
          refine ⟨o, ?_, h6, h7, fun j hj => ?_⟩
          · rw [List.append_assoc, List.append_assoc, List.cons_append, unc_two _ h2 (by omega) c2, ho]
            simp only [Option.map_some, List.length_append, List.length_cons]
            congr 2
            omega
          · rw [h8 j hj, <- hin j hj, orW_has _ _ hj, rangeL_has _ _ (by omega) j hj, Bool.or_assoc]
        · rw [if_neg c2] at hF ⊢
          obtain rfl : h = b := by omega
          simp only [List.append_nil, List.length_append] at hF ⊢
          obtain ⟨o, ho, h6, h7, h8⟩ := ih F' (orW acc (rangeL h 1)) (by omega) (orW_words hw (rangeL_words _ _)) rfl
          refine ⟨o, ?_, h6, h7, fun j hj => ?_⟩
          · rw [List.append_assoc, unc_one _ h2 _ hd.1, ho]
            simp only [Option.map_some]
            congr 2
          · rw [h8 j hj, <- hin j hj, orW_has _ _ hj, rangeL_has _ _ (by omega) j hj, Bool.or_assoc, show h + 1 - h = 1 from by omega]
    · rw [e, if_pos (by omega)]
      refine ⟨acc, ?_, ha, hw, fun j hj => ?_⟩
      · show unc (F' + 1) (93 :: more) acc = _
        rw [unc.eq_def]
        dsimp only
        rw [if_pos (by rfl)]
        rfl
      · rcases Nat.lt_or_ge j f with c | c
        · rw [decide_eq_false (show ¬ f <= j by omega)]; simp
        · rw [h1 j c hj]; simp
theorem unc_back (l : List Nat) (hl : l.length = 4) (hw : Words l) (more : List UInt8) (F : Nat) (hF : (clsT l 257 (fstB l 0)).length < F) :
    unc F (clsT l 257 (fstB l 0) ++ 93 :: more) [0, 0, 0, 0] = some (l, (clsT l 257 (fstB l 0)).length + 1) := by
  obtain ⟨o, ho, h1, h2, h3⟩ := unc_cls l more 257 0 F [0, 0, 0, 0] (by omega) (by omega) hF (fun i => by
    match i with
    | 0 => simp
    | 1 => simp
    | 2 => simp
    | 3 => simp
    | i + 4 => simp) rfl
  have : o = l := words_eq h1 hl h2 hw fun j hj => by
    rw [h3 j hj]
    have := rangeL_has 0 0 (by omega) j hj
    rw [rangeL] at this
    rw [this, decide_eq_false (by omega)]
    simp
  rw [ho, this]
def Sep (r : List UInt8) : Prop := isLD (bt r 0) = false
def Solid (l : List UInt8) : Prop := skipL false l = l
theorem solid_cons {c : UInt8} {l : List UInt8} (h : c ≠ 32 /\ c ≠ 9 /\ c ≠ 10 /\ c ≠ 13 /\ c ≠ 35) : Solid (c :: l) := by
  unfold Solid
  rw [skipL, if_neg (by simp [h]), if_neg h.2.2.2.2]
theorem skip_32 (l : List UInt8) : skipL false (32 :: l) = skipL false l := by rw [skipL, if_pos (.inl rfl)]
theorem let_not : ∀ n : Fin 256, isLet n.val = true -> n.val ≠ 39 /\ n.val ≠ 34 /\ n.val ≠ 91 /\ n.val ≠ 46 /\ n.val ≠ 40 /\ n.val ≠ 41 /\ n.val ≠ 47 /\ n.val ≠ 38 /\ n.val ≠ 33 /\ n.val ≠ 63 /\ n.val ≠ 42 /\ n.val ≠ 43 /\ n.val ≠ 60 /\ n.val ≠ 32 /\ n.val ≠ 9 /\ n.val ≠ 10 /\ n.val ≠ 13 /\ n.val ≠ 35 := by decide +kernel
theorem ne_u8 {c d : UInt8} (h : c.toNat ≠ d.toNat) : c ≠ d := fun e => h (by rw [e])
theorem nameL_app {r : List UInt8} (hr : Sep r) : ∀ t : List UInt8, (∀ c ∈ t, isLD c.toNat = true) -> nameL (t ++ r) = t.length
  | [], _ => by
    cases r with
    | nil => rfl
    | cons c r =>
      have : isLD c.toNat = false := hr
      rw [List.nil_append, nameL, if_neg (by rw [this]; decide)]
      rfl
  | c :: t, h => by
    rw [List.cons_append, nameL, if_pos (h c (.head _)), nameL_app hr t fun d hd => h d (.tail _ hd)]
    rfl
theorem name_parts {t : List UInt8} (h : nameB t = true) : ∃ c r, t = c :: r /\ isLet c.toNat = true /\ ∀ d ∈ t, isLD d.toNat = true := by
  unfold nameB at h
  simp only [Bool.and_eq_true, decide_eq_true_iff, List.all_eq_true, List.mem_range] at h
  obtain ⟨⟨h1, h2⟩, h3⟩ := h
  cases t with
  | nil => exact absurd rfl h1
  | cons c r =>
    refine ⟨c, r, rfl, ?_, fun d hd => ?_⟩
    · have := h3 0 (by simp)
      unfold nameAt at this
      simpa [bt] using this
    · obtain ⟨i, hi⟩ := List.getElem?_of_mem hd
      have hil := getElem?_lt hi
      have := h3 i hil
      have hb : bt (c :: r) i = d.toNat := by unfold bt; rw [List.getD_eq_getElem?_getD, hi]; rfl
      unfold nameAt at this
      rw [hb] at this
      unfold isLD
      simp only [Bool.or_eq_true, Bool.and_eq_true] at this ⊢
      rcases this with h | h
      · exact .inl h
      · exact .inr h.2
theorem tok_name {t r : List UInt8} (h : nameB t = true) (hr : Sep r) : tokL (t ++ r) = .nd (eRef t) t.length /\ Solid (t ++ r) := by
  obtain ⟨c, t', rfl, hc, hall⟩ := name_parts h
  have hn := let_not ⟨c.toNat, c.toNat_lt⟩ hc
  have hne : ∀ d : UInt8, c.toNat ≠ d.toNat -> c ≠ d := fun d => ne_u8
  obtain ⟨n1, n2, n3, n4, n5, n6, n7, n8, n9, n10, n11, n12, n13, n14, n15, n16, n17, n18⟩ := hn
  have m1 := hne 39 n1; have m2 := hne 34 n2; have m3 := hne 91 n3; have m4 := hne 46 n4; have m5 := hne 40 n5; have m6 := hne 41 n6; have m7 := hne 47 n7; have m8 := hne 38 n8; have m9 := hne 33 n9; have m10 := hne 63 n10; have m11 := hne 42 n11; have m12 := hne 43 n12; have m13 := hne 60 n13
  have m14 := hne 32 n14; have m15 := hne 9 n15; have m16 := hne 10 n16; have m17 := hne 13 n17; have m18 := hne 35 n18
  have hl := nameL_app hr (c :: t') hall
  refine ⟨?_, solid_cons ⟨m14, m15, m16, m17, m18⟩⟩
  rw [List.cons_append] at hl ⊢
  rw [tokL, if_neg (by simp [m1, m2]), if_neg m3, if_neg m4, if_neg (by simp [m5, m6, m7, m8, m9, m10, m11, m12]), if_neg (by simp [m13]), if_pos hc, hl]
  rw [<- List.cons_append, List.take_left]
theorem tok_lit (s r : List UInt8) : tokL (litL s ++ r) = .nd (if s = [] then eNil else eLit s) (litL s).length /\ Solid (litL s ++ r) := by
  have e : litL s ++ r = 39 :: (encAll false s ++ 39 :: r) := by unfold litL; simp
  rw [e]
  refine ⟨?_, solid_cons (by decide)⟩
  rw [tokL, if_pos (.inl rfl), show (39 : UInt8).toNat = 39 from rfl, unl_enc r s _ (by simp; omega)]
  simp only
  congr 1
  unfold litL
  simp
theorem tok_cls {w : List Nat} (hl : w.length = 4) (hw : Words w) (r : List UInt8) : tokL (clsAll w ++ r) = .nd (eSet w) (clsAll w).length /\ Solid (clsAll w ++ r) := by
  have e : clsAll w ++ r = 91 :: (clsT w 257 (fstB w 0) ++ 93 :: r) := by unfold clsAll; simp
  rw [e]
  refine ⟨?_, solid_cons (by decide)⟩
  rw [tokL, if_neg (by decide), if_pos rfl, if_neg (clsT_head w r 257 0 (by omega)).2, unc_back w hl hw r _ (by simp; omega)]
  simp only
  congr 1
  unfold clsAll
  simp
theorem tok_any (r : List UInt8) : tokL (46 :: r) = .nd eAny 1 /\ Solid (46 :: r) := ⟨by rfl, solid_cons (by decide)⟩
theorem tok_sg {c : UInt8} (hc : c = 40 \/ c = 41 \/ c = 47 \/ c = 38 \/ c = 33 \/ c = 63 \/ c = 42 \/ c = 43) (r : List UInt8) : tokL (c :: r) = .sg c.toNat 1 /\ Solid (c :: r) := by
  rcases hc with rfl | rfl | rfl | rfl | rfl | rfl | rfl | rfl
  all_goals exact ⟨by rfl, solid_cons (by decide)⟩
structure Fol (r : List UInt8) : Prop where
  sep : Sep r
  tok : (tokL (skipL false r)).isBad = false
  na : (skipL false r).take 2 ≠ [60, 45]
def NoPost (l : List UInt8) : Prop := ∀ c n, tokL l = .sg c n -> c ≠ 63 /\ c ≠ 42 /\ c ≠ 43
def NoSl (l : List UInt8) : Prop := ∀ c n, tokL l = .sg c n -> c ≠ 47
theorem sep_nil : Sep [] := (by decide : isLD 0 = false)
theorem sep_32 (l : List UInt8) : Sep (32 :: l) := (by decide : isLD 32 = false)
theorem Fol.nil : Fol [] := ⟨sep_nil, rfl, by decide⟩
theorem Fol.sg {c : UInt8} (hc : c = 40 \/ c = 41 \/ c = 47 \/ c = 38 \/ c = 33 \/ c = 63 \/ c = 42 \/ c = 43) (r : List UInt8) : Fol (c :: r) := by
  obtain ⟨h1, h2⟩ := tok_sg hc r
  refine ⟨?_, by rw [h2, h1]; rfl, ?_⟩
  · unfold Sep
    show isLD c.toNat = false
    rcases hc with rfl | rfl | rfl | rfl | rfl | rfl | rfl | rfl <;> decide
  · rw [h2]
    intro e
    rw [List.take_succ_cons] at e
    injection e with e _
    rcases hc with rfl | rfl | rfl | rfl | rfl | rfl | rfl | rfl <;> exact absurd e (by decide)
theorem tok_lt (r : List UInt8) : tokL (60 :: 45 :: r) = .sg 60 2 := by rfl
theorem beg_what {h : Bool} {l : List UInt8} (hb : begL h l = true) : (tokL l).isBad = false /\ l.take 2 ≠ [60, 45] /\ NoPost l /\ NoSl l /\ ∀ c n, tokL l = .sg c n -> c ≠ 41 := by
  have key : (∃ e n, tokL l = .nd e n) \/ ∃ c n, tokL l = .sg c n /\ (c = 40 \/ c = 38 \/ c = 33) := by
    unfold begL at hb
    cases ht : tokL l with
    | nd e n => exact .inl ⟨e, n, rfl⟩
    | sg c n => rw [ht] at hb; exact .inr ⟨c, n, rfl, by simpa using hb⟩
    | fin => rw [ht] at hb; cases hb
    | bad => rw [ht] at hb; cases hb
  refine ⟨?_, fun e => ?_, fun c n hc => ?_, fun c n hc => ?_, fun c n hc => ?_⟩
  · rcases key with ⟨e, n, h⟩ | ⟨c, n, h, _⟩ <;> rw [h] <;> rfl
  · obtain ⟨r, rfl⟩ : ∃ r, l = 60 :: 45 :: r := by
      match l, e with
      | c :: d :: r, e =>
        simp only [List.take_succ_cons, List.take_zero, List.cons.injEq, and_true] at e
        exact ⟨r, by rw [e.1, e.2]⟩
      | [c], e => simp at e
      | [], e => simp at e
    rw [tok_lt] at key
    rcases key with ⟨e, n, h⟩ | ⟨c, n, h, hc⟩
    · cases h
    · injection h with h1 h2
      omega
  all_goals
    rcases key with ⟨e, n, h⟩ | ⟨c', n', h, h'⟩
    · rw [h] at hc; cases hc
    · rw [h] at hc
      injection hc with e1 e2
      omega
theorem beg_sg {h : Bool} {l : List UInt8} {c n : Nat} (ht : tokL l = .sg c n) (hc : c = 40 \/ c = 38 \/ c = 33) : begL h l = true := by
  unfold begL
  rw [ht]
  simpa using hc
theorem beg_sg_no {h : Bool} {l : List UInt8} {c n : Nat} (ht : tokL l = .sg c n) (hc : ¬ (c = 40 \/ c = 38 \/ c = 33)) : begL h l = false := by
  unfold begL
  rw [ht]
  simpa using hc
theorem beg_nd {h : Bool} {l r p : List UInt8} {e : Ex} (hl : l = p ++ r) (ht : tokL l = .nd e p.length) (hr : Fol r) : begL h l = true := by
  unfold begL namesL
  rw [ht]
  simp only [Bool.not_eq_true']
  have : goL l p.length = skipL false r := by unfold goL; rw [hl, List.drop_left]
  rw [this, decide_eq_false hr.na]
  simp
theorem go_left (p r : List UInt8) : goL (p ++ r) p.length = skipL false r := by unfold goL; rw [List.drop_left]
theorem Fol.blank {h : Bool} {l : List UInt8} (hs : Solid l) (hb : begL h l = true) : Fol (32 :: l) := by
  have := beg_what hb
  exact ⟨sep_32 _, by rw [skip_32, hs]; exact this.1, by rw [skip_32, hs]; exact this.2.1⟩
section
variable {h : Bool} {l l1 l2 : List UInt8} {e : Ex} {R : Rs} {acc : List Ex}
theorem then_ok {n : Nat} {k : List UInt8 -> Option Rs} (hb : (tokL (goL l n)).isBad = false) : thenGo l n k = k (goL l n) := by
  unfold thenGo
  rw [if_neg (by rw [hb]; decide)]
theorem Rd.two {j j' : Pj} {l l' : List UInt8} {R R' : Rs} (h1 : Rd h j l R) (h2 : Rd h j' l' R') : ∃ f, rdJ h f j l = some R /\ rdJ h f j' l' = some R' := by
  obtain ⟨f, hf⟩ := h1
  obtain ⟨f', hf'⟩ := h2
  exact ⟨max f f', rdJ_le (Nat.le_max_left _ _) hf, rdJ_le (Nat.le_max_right _ _) hf'⟩
theorem Rd.alt (h1 : Rd h .seq l (.ok e l1)) (h2 : Rd h (.altL [e]) l1 R) : Rd h .alt l R := by
  obtain ⟨f, a, b⟩ := h1.two h2
  exact ⟨f + 1, by rw [rdJ, a]; exact b⟩
theorem Rd.altMore {n : Nat} (ht : tokL l = .sg 47 n) (hb : (tokL (goL l n)).isBad = false) (h1 : Rd h .seq (goL l n) (.ok e l1)) (h2 : Rd h (.altL (acc ++ [e])) l1 R) : Rd h (.altL acc) l R := by
  obtain ⟨f, a, b⟩ := h1.two h2
  refine ⟨f + 1, ?_⟩
  rw [rdJ, ht]
  simp only [if_true]
  rw [then_ok hb, a]
  exact b
theorem Rd.altEnd (hn : NoSl l) : Rd h (.altL acc) l (.ok (oneOr 6 acc) l) := by
  refine ⟨1, ?_⟩
  rw [rdJ]
  cases ht : tokL l with
  | sg c n => simp only; rw [if_neg (hn c n ht)]
  | _ => rfl
theorem Rd.seq (h1 : Rd h .pre l (.ok e l1)) (h2 : Rd h (.seqL [e]) l1 R) : Rd h .seq l R := by
  obtain ⟨f, a, b⟩ := h1.two h2
  exact ⟨f + 1, by rw [rdJ, a]; exact b⟩
theorem Rd.seqMore (hb : begL h l = true) (h1 : Rd h .pre l (.ok e l1)) (h2 : Rd h (.seqL (acc ++ [e])) l1 R) : Rd h (.seqL acc) l R := by
  obtain ⟨f, a, b⟩ := h1.two h2
  refine ⟨f + 1, ?_⟩
  rw [rdJ, if_pos hb, a]
  exact b
theorem Rd.seqEnd (hb : begL h l = false) : Rd h (.seqL acc) l (.ok (oneOr 5 acc) l) := ⟨1, by rw [rdJ, if_neg (by rw [hb]; decide)]⟩
theorem Rd.preOp {c n : Nat} (ht : tokL l = .sg c n) (hc : c = 38 \/ c = 33) (hb : (tokL (goL l n)).isBad = false) (h1 : Rd h .pre (goL l n) (.ok e l1)) : Rd h .pre l (.ok (.mk (if c = 38 then 10 else 11) 0 0 0 0 ⟨#[]⟩ [e]) l1) := by
  obtain ⟨f, a⟩ := h1
  refine ⟨f + 1, ?_⟩
  rw [rdJ, ht]
  simp only
  rw [if_pos hc, then_ok hb, a]
  rfl
theorem Rd.prePri (hn : ∀ c n, tokL l = .sg c n -> ¬ (c = 38 \/ c = 33)) (h1 : Rd h .pri l (.ok e l1)) (h2 : Rd h (.post e) l1 R) : Rd h .pre l R := by
  obtain ⟨f, a, b⟩ := h1.two h2
  refine ⟨f + 1, ?_⟩
  rw [rdJ]
  cases ht : tokL l with
  | sg c n => simp only; rw [if_neg (hn c n ht), a]; exact b
  | _ => simp only; rw [a]; exact b
theorem Rd.postOp {c n : Nat} (ht : tokL l = .sg c n) (hc : c = 63 \/ c = 42 \/ c = 43) (hb : (tokL (goL l n)).isBad = false) (h1 : Rd h (.post (.mk (postK c) 0 0 0 0 ⟨#[]⟩ [e])) (goL l n) R) : Rd h (.post e) l R := by
  obtain ⟨f, a⟩ := h1
  refine ⟨f + 1, ?_⟩
  rw [rdJ, ht]
  simp only
  rw [if_pos hc, then_ok hb, a]
theorem Rd.postEnd (hn : NoPost l) : Rd h (.post e) l (.ok e l) := by
  refine ⟨1, ?_⟩
  rw [rdJ]
  cases ht : tokL l with
  | sg c n =>
    have := hn c n ht
    simp only
    rw [if_neg (by omega)]
  | _ => rfl
theorem Rd.priNd {n : Nat} (ht : tokL l = .nd e n) (hg : begL h l = true) (hb : (tokL (goL l n)).isBad = false) : Rd h .pri l (.ok e (goL l n)) := by
  refine ⟨1, ?_⟩
  rw [rdJ, if_pos hg, ht]
  simp only
  rw [then_ok hb]
theorem Rd.priNil {n n1 : Nat} (ht : tokL l = .sg 40 n) (h1 : tokL (goL l n) = .sg 41 n1) (hb : (tokL (goL (goL l n) n1)).isBad = false) : Rd h .pri l (.ok eNil (goL (goL l n) n1)) := by
  refine ⟨1, ?_⟩
  rw [rdJ, if_pos (beg_sg ht (.inl rfl)), ht]
  simp only [if_true]
  rw [then_ok (by rw [h1]; rfl), h1]
  simp only [if_true]
  rw [then_ok hb]
theorem Rd.priBr {n n2 : Nat} (ht : tokL l = .sg 40 n) (hb : (tokL (goL l n)).isBad = false) (hn : ∀ c n', tokL (goL l n) = .sg c n' -> c ≠ 41) (h1 : Rd h .alt (goL l n) (.ok e l2)) (h2 : tokL l2 = .sg 41 n2) (hb2 : (tokL (goL l2 n2)).isBad = false) : Rd h .pri l (.ok e (goL l2 n2)) := by
  obtain ⟨f, a⟩ := h1
  refine ⟨f + 1, ?_⟩
  rw [rdJ, if_pos (beg_sg ht (.inl rfl)), ht]
  simp only [if_true]
  rw [then_ok hb]
  have fin : (bindR (rdJ h f .alt (goL l n)) fun e l2 => match tokL l2 with
            | .sg c2 n2 => if c2 = 41 then thenGo l2 n2 fun l3 => some (.ok e l3) else some (.no l2)
            | _ => some (.no l2)) = some (.ok e (goL l2 n2)) := by
    rw [a]
    show (match tokL l2 with
            | .sg c2 n2 => if c2 = 41 then thenGo l2 n2 fun l3 => some (.ok e l3) else some (.no l2)
            | _ => some (.no l2)) = _
    rw [h2]
    simp only [if_true]
    rw [then_ok hb2]
  cases hl1 : tokL (goL l n) with
  | sg c1 n1 => simp only; rw [if_neg (hn c1 n1 hl1)]; exact fin
  | _ => exact fin
end
inductive Rtx : Ex -> Prop
  | mk (k a b c d : Int) (t : ByteArray) (ks : List Ex) : fitB k a b c d t.data.toList ks.length = true -> U64 a -> U64 b -> U64 c -> U64 d -> (∀ e ∈ ks, Rtx e) -> Rtx (.mk k a b c d t ks)
theorem fit_what {k a b c d : Int} {t : List UInt8} {n : Nat} (h : fitB k a b c d t n = true) :
    (k = 1 /\ t = [] /\ (a = 0 /\ b = 0 /\ c = 0 /\ d = 0) /\ n = 0) \/ (k = 2 /\ t = [] /\ n = 0) \/ (k = 3 /\ (t ≠ [] /\ t.length <= 12) /\ (a = 0 /\ b = 0 /\ c = 0 /\ d = 0) /\ n = 0) \/
    (k = 4 /\ nameB t = true /\ (a = 0 /\ b = 0 /\ c = 0 /\ d = 0) /\ n = 0) \/ ((k = 5 \/ k = 6) /\ t = [] /\ (a = 0 /\ b = 0 /\ c = 0 /\ d = 0) /\ 2 <= n /\ n <= 8) \/ ((7 <= k /\ k <= 11) /\ t = [] /\ (a = 0 /\ b = 0 /\ c = 0 /\ d = 0) /\ n = 1) := by
  unfold fitB at h
  cases hl : lims k t with
  | none => rw [hl] at h; cases h
  | some x =>
    obtain ⟨lo, hi⟩ := x
    rw [hl] at h
    simp only [Bool.and_eq_true, Bool.or_eq_true, decide_eq_true_iff, beq_iff_eq] at h
    obtain ⟨⟨⟨h1, h2⟩, h3⟩, h4⟩ := h
    unfold lims at hl
    split at hl
    · injection hl with hl; injection hl with e1 e2; subst e1 e2
      rename_i hk
      rcases hk with hk | hk
      · left
        refine ⟨hk, ?_, ?_, by omega⟩
        · rcases h1 with h | h
          · omega
          · exact h
        · rcases h2 with h | h
          · omega
          · exact h
      · right; left
        refine ⟨hk, ?_, by omega⟩
        rcases h1 with h | h
        · omega
        · exact h
    · split at hl
      · split at hl
        · injection hl with hl; injection hl with e1 e2; subst e1 e2
          rename_i hk ht
          refine .inr (.inr (.inl ⟨hk, ht, ?_, by omega⟩))
          rcases h2 with h | h
          · omega
          · exact h
        · cases hl
      · split at hl
        · split at hl
          · injection hl with hl; injection hl with e1 e2; subst e1 e2
            rename_i hk ht
            refine .inr (.inr (.inr (.inl ⟨hk, ht, ?_, by omega⟩)))
            rcases h2 with h | h
            · omega
            · exact h
          · cases hl
        · split at hl
          · injection hl with hl; injection hl with e1 e2; subst e1 e2
            rename_i hk
            refine .inr (.inr (.inr (.inr (.inl ⟨hk, ?_, ?_, h3, h4⟩))))
            · rcases h1 with h | h
              · omega
              · exact h
            · rcases h2 with h | h
              · omega
              · exact h
          · split at hl
            · injection hl with hl; injection hl with e1 e2; subst e1 e2
              rename_i hk
              refine .inr (.inr (.inr (.inr (.inr ⟨hk, ?_, ?_, by omega⟩))))
              · rcases h1 with h | h
                · omega
                · exact h
              · rcases h2 with h | h
                · omega
                · exact h
            · cases hl
theorem text_nil {t : ByteArray} (h : t.data.toList = []) : t = ⟨#[]⟩ := by
  obtain ⟨⟨l⟩⟩ := t
  simp at h
  rw [h]
theorem text_back (t : ByteArray) : (⟨t.data.toList.toArray⟩ : ByteArray) = t := by
  obtain ⟨⟨l⟩⟩ := t
  rfl
theorem txL_map (least : Nat) : ∀ ks : List Ex, txL least ks = ks.map fun e => brk e least (txE e)
  | [] => rfl
  | e :: ks => by rw [txL, txL_map least ks]; rfl
structure Rdb (h : Bool) (e : Ex) : Prop where
  hd : ∀ r, Fol r -> Solid (txE e ++ r) /\ begL h (txE e ++ r) = true
  b : 4 <= lvl e.kindX -> ∀ r R, Fol r -> Rd h (.post e) (skipL false r) R -> Rd h .pre (txE e ++ r) R
  c : 3 <= lvl e.kindX -> ∀ r, Fol r -> NoPost (skipL false r) -> Rd h .pre (txE e ++ r) (.ok e (skipL false r))
  d : 2 <= lvl e.kindX -> ∀ r, Fol r -> NoPost (skipL false r) -> begL h (skipL false r) = false -> Rd h .seq (txE e ++ r) (.ok e (skipL false r))
  e : ∀ r, Fol r -> NoPost (skipL false r) -> begL h (skipL false r) = false -> NoSl (skipL false r) -> Rd h .alt (txE e ++ r) (.ok e (skipL false r))
section
variable {h : Bool} {e : Ex}
theorem c_of_b (hb : ∀ r R, Fol r -> Rd h (.post e) (skipL false r) R -> Rd h .pre (txE e ++ r) R) : ∀ r, Fol r -> NoPost (skipL false r) -> Rd h .pre (txE e ++ r) (.ok e (skipL false r)) :=
  fun r hr hn => hb r _ hr (Rd.postEnd hn)
theorem d_of_c (hc : ∀ r, Fol r -> NoPost (skipL false r) -> Rd h .pre (txE e ++ r) (.ok e (skipL false r))) : ∀ r, Fol r -> NoPost (skipL false r) -> begL h (skipL false r) = false -> Rd h .seq (txE e ++ r) (.ok e (skipL false r)) :=
  fun r hr hn hg => Rd.seq (hc r hr hn) (Rd.seqEnd hg)
theorem e_of_d (hd : ∀ r, Fol r -> NoPost (skipL false r) -> begL h (skipL false r) = false -> Rd h .seq (txE e ++ r) (.ok e (skipL false r))) : ∀ r, Fol r -> NoPost (skipL false r) -> begL h (skipL false r) = false -> NoSl (skipL false r) -> Rd h .alt (txE e ++ r) (.ok e (skipL false r)) :=
  fun r hr hn hg hs => Rd.alt (hd r hr hn hg) (Rd.altEnd hs)
theorem Rdb.of_b (hd : ∀ r, Fol r -> Solid (txE e ++ r) /\ begL h (txE e ++ r) = true) (hb : ∀ r R, Fol r -> Rd h (.post e) (skipL false r) R -> Rd h .pre (txE e ++ r) R) : Rdb h e :=
  ⟨hd, fun _ => hb, fun _ => c_of_b hb, fun _ => d_of_c (c_of_b hb), e_of_d (d_of_c (c_of_b hb))⟩
theorem Rdb.of_c (hd : ∀ r, Fol r -> Solid (txE e ++ r) /\ begL h (txE e ++ r) = true) (hl : lvl e.kindX < 4) (hc : ∀ r, Fol r -> NoPost (skipL false r) -> Rd h .pre (txE e ++ r) (.ok e (skipL false r))) : Rdb h e :=
  ⟨hd, fun h4 => by omega, fun _ => hc, fun _ => d_of_c hc, e_of_d (d_of_c hc)⟩
theorem Rdb.of_d (hd : ∀ r, Fol r -> Solid (txE e ++ r) /\ begL h (txE e ++ r) = true) (hl : lvl e.kindX < 3) (hc : ∀ r, Fol r -> NoPost (skipL false r) -> begL h (skipL false r) = false -> Rd h .seq (txE e ++ r) (.ok e (skipL false r))) : Rdb h e :=
  ⟨hd, fun h4 => by omega, fun h4 => by omega, fun _ => hc, e_of_d hc⟩
theorem Rdb.of_e (hd : ∀ r, Fol r -> Solid (txE e ++ r) /\ begL h (txE e ++ r) = true) (hl : lvl e.kindX < 2) (hc : ∀ r, Fol r -> NoPost (skipL false r) -> begL h (skipL false r) = false -> NoSl (skipL false r) -> Rd h .alt (txE e ++ r) (.ok e (skipL false r))) : Rdb h e :=
  ⟨hd, fun h4 => by omega, fun h4 => by omega, fun h4 => by omega, hc⟩
theorem Rdb.of_nd (ht : ∀ r, Fol r -> tokL (txE e ++ r) = .nd e (txE e).length /\ Solid (txE e ++ r)) : Rdb h e := by
  refine Rdb.of_b (fun r hr => ⟨(ht r hr).2, beg_nd rfl (ht r hr).1 hr⟩) fun r R hr hR => ?_
  obtain ⟨h1, h2⟩ := ht r hr
  have h3 : Rd h .pri (txE e ++ r) (.ok e (goL (txE e ++ r) (txE e).length)) := Rd.priNd h1 (beg_nd rfl h1 hr) (by rw [go_left]; exact hr.tok)
  rw [go_left] at h3
  exact Rd.prePri (fun c n hc => by rw [h1] at hc; cases hc) h3 hR
theorem go_one (c : UInt8) (l : List UInt8) : goL (c :: l) 1 = skipL false l := rfl
theorem Rdb.br (H : Rdb h e) {r : List UInt8} (hr : Fol r) : Rd h .pri (40 :: (txE e ++ [41]) ++ r) (.ok e (skipL false r)) /\ tokL (40 :: (txE e ++ [41]) ++ r) = .sg 40 1 /\ Solid (40 :: (txE e ++ [41]) ++ r) := by
  have el : 40 :: (txE e ++ [41]) ++ r = 40 :: (txE e ++ 41 :: r) := by simp
  rw [el]
  have f41 : Fol (41 :: r) := Fol.sg (by simp) r
  obtain ⟨t41, s41⟩ := tok_sg (c := 41) (by simp) r
  obtain ⟨t40, s40⟩ := tok_sg (c := 40) (by simp) (txE e ++ 41 :: r)
  obtain ⟨hs, hb⟩ := H.hd _ f41
  have hw := beg_what hb
  have hg : goL (40 :: (txE e ++ 41 :: r)) 1 = txE e ++ 41 :: r := by rw [go_one, hs]
  have s41' : skipL false (41 :: r) = 41 :: r := s41
  have h1 := H.e (41 :: r) f41 (fun c n hc => by rw [s41', t41] at hc; injection hc with e1 _; rw [<- e1]; decide) (by rw [s41']; exact beg_sg_no t41 (by decide)) (fun c n hc => by rw [s41', t41] at hc; injection hc with e1 _; rw [<- e1]; decide)
  rw [s41'] at h1
  refine ⟨?_, t40, s40⟩
  have := Rd.priBr (h := h) (l := 40 :: (txE e ++ 41 :: r)) (n := 1) (n2 := 1) (e := e) (l2 := 41 :: r) t40 (by rw [hg]; exact hw.1) (by rw [hg]; exact hw.2.2.2.2) (by rw [hg]; exact h1) t41 (by rw [go_one]; exact hr.tok)
  rw [go_one] at this
  exact this
theorem Rdb.whd (H : Rdb h e) (least : Nat) {r : List UInt8} (hr : Fol r) : Solid (brk e least (txE e) ++ r) /\ begL h (brk e least (txE e) ++ r) = true := by
  unfold brk
  split
  · obtain ⟨_, h2, h3⟩ := H.br hr
    exact ⟨h3, beg_sg h2 (.inl rfl)⟩
  · exact H.hd r hr
theorem Rdb.wb (H : Rdb h e) {r : List UInt8} {R : Rs} (hr : Fol r) (hR : Rd h (.post e) (skipL false r) R) : Rd h .pre (brk e 4 (txE e) ++ r) R := by
  unfold brk
  split
  · obtain ⟨h1, h2, _⟩ := H.br hr
    exact Rd.prePri (fun c n hc => by rw [h2] at hc; injection hc with e1 _; omega) h1 hR
  · exact H.b (by omega) r R hr hR
theorem Rdb.wc (H : Rdb h e) {r : List UInt8} (hr : Fol r) (hn : NoPost (skipL false r)) : Rd h .pre (brk e 3 (txE e) ++ r) (.ok e (skipL false r)) := by
  unfold brk
  split
  · obtain ⟨h1, h2, _⟩ := H.br hr
    exact Rd.prePri (fun c n hc => by rw [h2] at hc; injection hc with e1 _; omega) h1 (Rd.postEnd hn)
  · exact H.c (by omega) r hr hn
theorem Rdb.wd (H : Rdb h e) {r : List UInt8} (hr : Fol r) (hn : NoPost (skipL false r)) (hg : begL h (skipL false r) = false) : Rd h .seq (brk e 2 (txE e) ++ r) (.ok e (skipL false r)) := by
  unfold brk
  split
  · obtain ⟨h1, h2, _⟩ := H.br hr
    exact Rd.seq (Rd.prePri (fun c n hc => by rw [h2] at hc; injection hc with e1 _; omega) h1 (Rd.postEnd hn)) (Rd.seqEnd hg)
  · exact H.d (by omega) r hr hn hg
end
section
variable {h : Bool}
def tailS (sep : List UInt8) (least : Nat) (ks : List Ex) (r : List UInt8) : List UInt8 := Lib.joinTail sep (txL least ks) ++ r
theorem tail_cons (sep : List UInt8) (least : Nat) (e : Ex) (ks : List Ex) (r : List UInt8) : tailS sep least (e :: ks) r = sep ++ (brk e least (txE e) ++ tailS sep least ks r) := by
  unfold tailS Lib.joinTail
  rw [txL]
  simp
theorem join_head (sep : List UInt8) (least : Nat) (e : Ex) (ks : List Ex) (r : List UInt8) : Lib.join (txL least (e :: ks)) sep ++ r = brk e least (txE e) ++ tailS sep least ks r := by
  rw [txL, Lib.join_cons]
  unfold tailS
  simp
theorem seq_tail {r : List UInt8} (hr : Fol r) (hn : NoPost (skipL false r)) (hg : begL h (skipL false r) = false) : ∀ (ks : List Ex), (∀ e ∈ ks, Rdb h e) ->
    Fol (tailS [32] 3 ks r) /\ NoPost (skipL false (tailS [32] 3 ks r)) /\ ∀ acc, Rd h (.seqL acc) (skipL false (tailS [32] 3 ks r)) (.ok (oneOr 5 (acc ++ ks)) (skipL false r))
  | [], _ => ⟨hr, hn, fun acc => by rw [List.append_nil]; exact Rd.seqEnd hg⟩
  | e :: ks, H => by
    obtain ⟨f1, n1, i1⟩ := seq_tail hr hn hg ks fun e he => H e (.tail _ he)
    have He := H e (.head _)
    obtain ⟨hs, hb⟩ := He.whd 3 f1
    rw [tail_cons]
    show Fol (32 :: (brk e 3 (txE e) ++ tailS [32] 3 ks r)) /\ NoPost (skipL false (32 :: (brk e 3 (txE e) ++ tailS [32] 3 ks r))) /\ ∀ acc, Rd h (.seqL acc) (skipL false (32 :: (brk e 3 (txE e) ++ tailS [32] 3 ks r))) _
    rw [skip_32, hs]
    refine ⟨Fol.blank hs hb, (beg_what hb).2.2.1, fun acc => ?_⟩
    have := i1 (acc ++ [e])
    rw [List.append_assoc] at this
    exact Rd.seqMore hb (He.wc f1 n1) this
theorem alt_tail {r : List UInt8} (hr : Fol r) (hn : NoPost (skipL false r)) (hg : begL h (skipL false r) = false) (hs0 : NoSl (skipL false r)) : ∀ (ks : List Ex), (∀ e ∈ ks, Rdb h e) ->
    Fol (tailS [32, 47, 32] 2 ks r) /\ NoPost (skipL false (tailS [32, 47, 32] 2 ks r)) /\ begL h (skipL false (tailS [32, 47, 32] 2 ks r)) = false /\ ∀ acc, Rd h (.altL acc) (skipL false (tailS [32, 47, 32] 2 ks r)) (.ok (oneOr 6 (acc ++ ks)) (skipL false r))
  | [], _ => ⟨hr, hn, hg, fun acc => by rw [List.append_nil]; exact Rd.altEnd hs0⟩
  | e :: ks, H => by
    obtain ⟨f1, n1, g1, i1⟩ := alt_tail hr hn hg hs0 ks fun e he => H e (.tail _ he)
    have He := H e (.head _)
    obtain ⟨hs, hb⟩ := He.whd 2 f1
    rw [tail_cons]
    have e0 : ([32, 47, 32] : List UInt8) ++ (brk e 2 (txE e) ++ tailS [32, 47, 32] 2 ks r) = 32 :: 47 :: 32 :: (brk e 2 (txE e) ++ tailS [32, 47, 32] 2 ks r) := rfl
    rw [e0]
    generalize hX : brk e 2 (txE e) ++ tailS [32, 47, 32] 2 ks r = X at hs hb
    obtain ⟨t47, s47⟩ := tok_sg (c := 47) (by simp) (32 :: X)
    have s47' : skipL false (47 :: 32 :: X) = 47 :: 32 :: X := s47
    have hf : Fol (32 :: 47 :: 32 :: X) := by
      refine ⟨sep_32 _, by rw [skip_32, s47', t47]; rfl, ?_⟩
      rw [skip_32, s47']
      simp
    rw [skip_32, s47']
    refine ⟨hf, fun c n hc => by rw [t47] at hc; injection hc with e1 _; rw [<- e1]; decide, beg_sg_no t47 (by decide), fun acc => ?_⟩
    have := i1 (acc ++ [e])
    rw [List.append_assoc] at this
    have hgo : goL (47 :: 32 :: X) 1 = X := by rw [go_one, skip_32, hs]
    refine Rd.altMore (n := 1) t47 (by rw [hgo]; exact (beg_what hb).1) ?_ this
    rw [hgo, <- hX]
    exact He.wd f1 n1 g1
end
theorem flat_one (x : List UInt8) : [x].flatten = x := by simp
theorem words_of {a b c d : Int} (ha : U64 a) (hb : U64 b) (hc : U64 c) (hd : U64 d) : Words [a.toNat, b.toNat, c.toNat, d.toNat] /\ eSet [a.toNat, b.toNat, c.toNat, d.toNat] = .mk 2 a b c d ⟨#[]⟩ [] := by
  obtain ⟨a1, a2⟩ := ha
  obtain ⟨b1, b2⟩ := hb
  obtain ⟨c1, c2⟩ := hc
  obtain ⟨d1, d2⟩ := hd
  refine ⟨fun i => ?_, ?_⟩
  · match i with
    | 0 => simp; omega
    | 1 => simp; omega
    | 2 => simp; omega
    | 3 => simp; omega
    | i + 4 => simp
  · unfold eSet
    simp [Int.toNat_of_nonneg a1, Int.toNat_of_nonneg b1, Int.toNat_of_nonneg c1, Int.toNat_of_nonneg d1]
theorem rdb (h : Bool) (e : Ex) : Rtx e -> Rdb h e := by
  induction e using Ex.ind with
  | h k a b c d t ks ih =>
    intro hR
    cases hR with
    | mk _ _ _ _ _ _ _ hf ha hb hc hd hks =>
    have IH : ∀ e ∈ ks, Rdb h e := fun e he => ih e he (hks e he)
    rcases fit_what hf with ⟨rfl, ht, ⟨rfl, rfl, rfl, rfl⟩, hn⟩ | ⟨rfl, ht, hn⟩ | ⟨rfl, ht, ⟨rfl, rfl, rfl, rfl⟩, hn⟩ | ⟨rfl, ht, ⟨rfl, rfl, rfl, rfl⟩, hn⟩ | ⟨hk, ht, ⟨rfl, rfl, rfl, rfl⟩, hn, hn8⟩ | ⟨hk, ht, ⟨rfl, rfl, rfl, rfl⟩, hn⟩
    · -- ()
      obtain rfl := text_nil ht
      obtain rfl := List.eq_nil_of_length_eq_zero hn
      have htx : txE (.mk 1 0 0 0 0 ⟨#[]⟩ []) = [40, 41] := by rw [txE]; rfl
      have key : ∀ r, Fol r -> tokL (40 :: 41 :: r) = .sg 40 1 /\ Solid (40 :: 41 :: r) /\ Rd h .pri (40 :: 41 :: r) (.ok eNil (skipL false r)) := fun r hr => by
        obtain ⟨t40, s40⟩ := tok_sg (c := 40) (by simp) (41 :: r)
        obtain ⟨t41, s41⟩ := tok_sg (c := 41) (by simp) r
        have hg : goL (40 :: 41 :: r) 1 = 41 :: r := by rw [go_one]; exact s41
        have := Rd.priNil (h := h) (l := 40 :: 41 :: r) (n := 1) (n1 := 1) t40 (by rw [hg]; exact t41) (by rw [hg, go_one]; exact hr.tok)
        rw [hg, go_one] at this
        exact ⟨t40, s40, this⟩
      refine Rdb.of_b (fun r hr => ?_) fun r R hr hR => ?_
      · rw [htx]
        exact ⟨(key r hr).2.1, beg_sg (key r hr).1 (.inl rfl)⟩
      · rw [htx]
        obtain ⟨h1, _, h3⟩ := key r hr
        exact Rd.prePri (fun c n hc => by rw [show ([40, 41] : List UInt8) ++ r = 40 :: 41 :: r from rfl, h1] at hc; injection hc with e1 _; omega) h3 hR
    · obtain rfl := text_nil ht
      obtain rfl := List.eq_nil_of_length_eq_zero hn
      refine Rdb.of_nd fun r hr => ?_
      rw [txE, if_neg (by decide), if_pos rfl]
      split
      · rename_i hM
        obtain ⟨rfl, rfl, rfl, rfl⟩ := hM
        exact tok_any r
      · obtain ⟨hw, he⟩ := words_of ha hb hc hd
        have := tok_cls (w := [a.toNat, b.toNat, c.toNat, d.toNat]) rfl hw r
        rw [he] at this
        exact this
    · obtain rfl := List.eq_nil_of_length_eq_zero hn
      refine Rdb.of_nd fun r hr => ?_
      rw [txE, if_neg (by decide), if_neg (by decide), if_pos rfl]
      have := tok_lit t.data.toList r
      rw [if_neg ht.1] at this
      unfold eLit at this
      rw [text_back] at this
      exact this
    · obtain rfl := List.eq_nil_of_length_eq_zero hn
      refine Rdb.of_nd fun r hr => ?_
      rw [txE, if_neg (by decide), if_neg (by decide), if_neg (by decide), if_pos rfl]
      have := tok_name ht hr.sep
      unfold eRef at this
      rw [text_back] at this
      exact this
    · obtain rfl := text_nil ht
      match ks, hn, IH with
      | e0 :: e1 :: ks, hn, IH =>
        have H0 := IH e0 (.head _)
        have Hr : ∀ e ∈ e1 :: ks, Rdb h e := fun e he => IH e (.tail _ he)
        rcases hk with rfl | rfl
        · have htx : txE (.mk 5 0 0 0 0 ⟨#[]⟩ (e0 :: e1 :: ks)) = Lib.join (txL 3 (e0 :: e1 :: ks)) [32] := by
            rw [txE]
            simp only [Int.reduceEq, if_false]
          have hfol : ∀ r, Fol r -> Fol (tailS [32] 3 (e1 :: ks) r) := fun r hr => by
            have key : ∀ ks : List Ex, (∀ e ∈ ks, Rdb h e) -> Fol (tailS [32] 3 ks r) := by
              intro ks
              induction ks with
              | nil => intro _; exact hr
              | cons e ks ih2 =>
                intro H
                obtain ⟨hs, hb⟩ := (H e (.head _)).whd 3 (ih2 fun e he => H e (.tail _ he))
                rw [tail_cons]
                exact Fol.blank hs hb
            exact key _ Hr
          refine Rdb.of_d (fun r hr => ?_) (by simp [Ex.kindX, lvl]) fun r hr hnp hg => ?_
          · rw [htx, join_head]
            exact H0.whd 3 (hfol r hr)
          · rw [htx, join_head]
            obtain ⟨f1, n1, i1⟩ := seq_tail hr hnp hg (e1 :: ks) Hr
            exact Rd.seq (H0.wc f1 n1) (i1 [e0])
        · have htx : txE (.mk 6 0 0 0 0 ⟨#[]⟩ (e0 :: e1 :: ks)) = Lib.join (txL 2 (e0 :: e1 :: ks)) [32, 47, 32] := by
            rw [txE]
            simp only [Int.reduceEq, if_false, if_true]
          have hfol : ∀ r, Fol (tailS [32, 47, 32] 2 (e1 :: ks) r) := fun r => by
            rw [tail_cons]
            have e0 : ([32, 47, 32] : List UInt8) ++ (brk e1 2 (txE e1) ++ tailS [32, 47, 32] 2 ks r) = 32 :: 47 :: 32 :: (brk e1 2 (txE e1) ++ tailS [32, 47, 32] 2 ks r) := rfl
            rw [e0]
            obtain ⟨t47, s47⟩ := tok_sg (c := 47) (by simp) (32 :: (brk e1 2 (txE e1) ++ tailS [32, 47, 32] 2 ks r))
            refine ⟨sep_32 _, by rw [skip_32, s47, t47]; rfl, ?_⟩
            rw [skip_32, s47]
            simp
          refine Rdb.of_e (fun r hr => ?_) (by simp [Ex.kindX, lvl]) fun r hr hnp hg hsl => ?_
          · rw [htx, join_head]
            exact H0.whd 2 (hfol r)
          · rw [htx, join_head]
            obtain ⟨f1, n1, g1, i1⟩ := alt_tail hr hnp hg hsl (e1 :: ks) Hr
            exact Rd.alt (H0.wd f1 n1 g1) (i1 [e0])
    · obtain rfl := text_nil ht
      obtain ⟨e0, rfl⟩ : ∃ e0, ks = [e0] := by
        match ks, hn with
        | [e0], _ => exact ⟨e0, rfl⟩
      have H0 := IH e0 (.head _)
      have post : ∀ (k : Int) (c : UInt8), (c = 63 \/ c = 42 \/ c = 43) -> postK c.toNat = k -> lvl k = 4 -> txE (.mk k 0 0 0 0 ⟨#[]⟩ [e0]) = (txL 4 [e0]).flatten ++ [c] -> Rdb h (.mk k 0 0 0 0 ⟨#[]⟩ [e0]) := by
        intro k c hc hk hl htx
        have hc8 : c = 40 \/ c = 41 \/ c = 47 \/ c = 38 \/ c = 33 \/ c = 63 \/ c = 42 \/ c = 43 := by
          rcases hc with h | h | h
          · exact .inr (.inr (.inr (.inr (.inr (.inl h)))))
          · exact .inr (.inr (.inr (.inr (.inr (.inr (.inl h))))))
          · exact .inr (.inr (.inr (.inr (.inr (.inr (.inr h))))))
        have hcn : c.toNat = 63 \/ c.toNat = 42 \/ c.toNat = 43 := by
          rcases hc with rfl | rfl | rfl
          · exact .inl rfl
          · exact .inr (.inl rfl)
          · exact .inr (.inr rfl)
        have htx2 : ∀ r, txE (.mk k 0 0 0 0 ⟨#[]⟩ [e0]) ++ r = brk e0 4 (txE e0) ++ (c :: r) := fun r => by
          rw [htx, txL, txL, flat_one]
          simp
        refine Rdb.of_b (fun r hr => ?_) fun r R hr hR => ?_
        · rw [htx2]
          exact H0.whd 4 (Fol.sg hc8 r)
        · rw [htx2]
          obtain ⟨tc, sc⟩ := tok_sg hc8 r
          refine H0.wb (Fol.sg hc8 r) ?_
          rw [show skipL false (c :: r) = c :: r from sc]
          refine Rd.postOp (n := 1) tc hcn (by rw [go_one]; exact hr.tok) ?_
          rw [hk, go_one]
          exact hR
      have pre : ∀ (k : Int) (c : UInt8), (c = 38 \/ c = 33) -> (if c.toNat = 38 then (10 : Int) else 11) = k -> lvl k = 3 -> txE (.mk k 0 0 0 0 ⟨#[]⟩ [e0]) = c :: (txL 3 [e0]).flatten -> Rdb h (.mk k 0 0 0 0 ⟨#[]⟩ [e0]) := by
        intro k c hc hk hl htx
        have hc8 : c = 40 \/ c = 41 \/ c = 47 \/ c = 38 \/ c = 33 \/ c = 63 \/ c = 42 \/ c = 43 := by
          rcases hc with h | h
          · exact .inr (.inr (.inr (.inl h)))
          · exact .inr (.inr (.inr (.inr (.inl h))))
        have hcn : c.toNat = 38 \/ c.toNat = 33 := by
          rcases hc with rfl | rfl
          · exact .inl rfl
          · exact .inr rfl
        have htx2 : ∀ r, txE (.mk k 0 0 0 0 ⟨#[]⟩ [e0]) ++ r = c :: (brk e0 3 (txE e0) ++ r) := fun r => by
          rw [htx, txL, txL, flat_one]
          rfl
        refine Rdb.of_c (fun r hr => ?_) (by show lvl k < 4; omega) fun r hr hnp => ?_
        · rw [htx2]
          obtain ⟨tc, sc⟩ := tok_sg hc8 (brk e0 3 (txE e0) ++ r)
          exact ⟨sc, beg_sg tc (by omega)⟩
        · rw [htx2]
          obtain ⟨tc, sc⟩ := tok_sg hc8 (brk e0 3 (txE e0) ++ r)
          obtain ⟨hs, hb⟩ := H0.whd 3 hr
          have hgo : goL (c :: (brk e0 3 (txE e0) ++ r)) 1 = brk e0 3 (txE e0) ++ r := by rw [go_one, hs]
          have := Rd.preOp (h := h) (l := c :: (brk e0 3 (txE e0) ++ r)) (n := 1) (e := e0) (l1 := skipL false r) tc hcn (by rw [hgo]; exact (beg_what hb).1) (by rw [hgo]; exact H0.wc hr hnp)
          rw [hk] at this
          exact this
      rcases (show k = 7 \/ k = 8 \/ k = 9 \/ k = 10 \/ k = 11 by omega) with rfl | rfl | rfl | rfl | rfl
      · exact post 7 42 (.inr (.inl rfl)) rfl rfl (by rw [txE]; simp only [Int.reduceEq, if_false, if_true])
      · exact post 8 43 (.inr (.inr rfl)) rfl rfl (by rw [txE]; simp only [Int.reduceEq, if_false, if_true])
      · exact post 9 63 (.inl rfl) rfl rfl (by rw [txE]; simp only [Int.reduceEq, if_false, if_true])
      · exact pre 10 38 (.inl rfl) rfl rfl (by rw [txE]; simp only [Int.reduceEq, if_false, if_true])
      · exact pre 11 33 (.inr rfl) rfl rfl (by rw [txE]; simp only [Int.reduceEq, if_false, if_true])
end Go.Proofs.YtndhbdbfjkmloaaDoor
