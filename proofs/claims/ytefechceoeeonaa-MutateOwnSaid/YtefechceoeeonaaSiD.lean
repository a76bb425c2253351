/- Grammars made simpler, plain: what simp.Simp answers. -/
import Derived.Test.YtefechceoeeonaaHC
import Derived.Test.YtefechceoeeonaaGF
namespace Go.Proofs.Ytefechceoeeonaa
open Go.RowKit

def Ex.kd : Ex → Int
  | .mk k _ _ _ _ _ _ => k
def Ex.ks : Ex → List Ex
  | .mk _ _ _ _ _ _ ks => ks
/-- two that are one -/
def singleS : Ex → Ex × Bool
  | .mk k a b c d t [] => (.mk k a b c d t [], false)
  | .mk k a b c d t (x :: xs) =>
    if k = 11 ∧ x.kd = 11 then (ofN 10 x.ks, true)
    else if k = 11 ∧ x.kd = 10 then (ofN 11 x.ks, true)
    else if (k = 10 ∧ (x.kd = 10 ∨ x.kd = 11)) ∨ (k = 9 ∧ (x.kd = 9 ∨ x.kd = 7)) then (x, true)
    else if k = 9 ∧ x.kd = 8 then (ofN 7 x.ks, true)
    else (.mk k a b c d t (x :: xs), false)
theorem single_cons (k a b c d : Int) (t : ByteArray) (x : Ex) (xs : List Ex) : singleS (.mk k a b c d t (x :: xs)) = if k = 11 ∧ x.kd = 11 then (ofN 10 x.ks, true)
    else if k = 11 ∧ x.kd = 10 then (ofN 11 x.ks, true)
    else if (k = 10 ∧ (x.kd = 10 ∨ x.kd = 11)) ∨ (k = 9 ∧ (x.kd = 9 ∨ x.kd = 7)) then (x, true)
    else if k = 9 ∧ x.kd = 8 then (ofN 7 x.ks, true)
    else (.mk k a b c d t (x :: xs), false) := rfl
theorem single_two (k a b c d : Int) (t : ByteArray) (k2 a2 b2 c2 d2 : Int) (t2 : ByteArray) (ks xs : List Ex) : singleS (.mk k a b c d t (.mk k2 a2 b2 c2 d2 t2 ks :: xs)) = if k = 11 ∧ k2 = 11 then (ofN 10 ks, true)
    else if k = 11 ∧ k2 = 10 then (ofN 11 ks, true)
    else if (k = 10 ∧ (k2 = 10 ∨ k2 = 11)) ∨ (k = 9 ∧ (k2 = 9 ∨ k2 = 7)) then (.mk k2 a2 b2 c2 d2 t2 ks, true)
    else if k = 9 ∧ k2 = 8 then (ofN 7 ks, true)
    else (.mk k a b c d t (.mk k2 a2 b2 c2 d2 t2 ks :: xs), false) := rfl
/-- is the kid's list laid within? -/
def flatB (k : Int) (x : Ex) (l xs : List Ex) : Bool := decide (x.kd = k) && decide (l.length + x.ks.length + xs.length ≤ 8)
/-- is it the last that is come to? -/
def lastB (g : List Rl) (fs : List Fa) (k : Int) (x : Ex) (xs : List Ex) : Bool := decide (k = 6) && decide (0 < xs.length) && !(ofE g fs x).f
/-- kids of a list gone through, behind those that stand -/
def listS (g : List Rl) (fs : List Fa) (k : Int) : List Ex → List Ex → List Ex × Bool
  | [], l => (l, false)
  | x :: xs, l =>
    if x.kd = 1 ∧ k = 5 then ((listS g fs k xs l).1, true)
    else if lastB g fs k x xs = true then (l ++ (if flatB k x l xs = true then x.ks else [x]), true)
    else ((listS g fs k xs (l ++ (if flatB k x l xs = true then x.ks else [x]))).1, flatB k x l xs || (listS g fs k xs (l ++ (if flatB k x l xs = true then x.ks else [x]))).2)
def topS (k a b c d : Int) (t : ByteArray) : List Ex × Bool → Ex × Bool
  | ([], m) => (ofN 1 [], m)
  | ([y], _) => (y, true)
  | (y :: z :: l, m) => (.mk k a b c d t (y :: z :: l), m)
mutual
/-- an expression made simpler, and was there anything to be made simpler? -/
def simE (g : List Rl) (fs : List Fa) : Ex → Ex × Bool
  | .mk k a b c d t ks =>
    if k = 5 ∨ k = 6 then ((topS k a b c d t (listS g fs k (simEs g fs ks).1 [])).1, (simEs g fs ks).2 || (topS k a b c d t (listS g fs k (simEs g fs ks).1 [])).2)
    else if 9 ≤ k ∧ k ≤ 11 then ((singleS (.mk k a b c d t (simEs g fs ks).1)).1, (simEs g fs ks).2 || (singleS (.mk k a b c d t (simEs g fs ks).1)).2)
    else (.mk k a b c d t (simEs g fs ks).1, (simEs g fs ks).2)
def simEs (g : List Rl) (fs : List Fa) : List Ex → List Ex × Bool
  | [] => ([], false)
  | e :: es => ((simE g fs e).1 :: (simEs g fs es).1, (simE g fs e).2 || (simEs g fs es).2)
end
theorem simEs_map (g : List Rl) (fs : List Fa) : ∀ ks : List Ex, (simEs g fs ks).1 = ks.map fun e => (simE g fs e).1
  | [] => rfl
  | e :: es => by rw [simEs, simEs_map g fs es]; rfl
theorem simEs_any (g : List Rl) (fs : List Fa) : ∀ ks : List Ex, (simEs g fs ks).2 = ks.any fun e => (simE g fs e).2
  | [] => rfl
  | e :: es => by rw [simEs, simEs_any g fs es]; rfl
/-- all rules once -/
def simG (g : List Rl) : List Rl × Bool := (g.map fun r => (r.1, (simE g (factsG g) r.2).1), g.any fun r => (simE g (factsG g) r.2).2)
/-- till nothing more is to be made simpler -/
def simN : Nat → List Rl → List Rl
  | 0, g => g
  | n + 1, g => if (simG g).2 = true then simN n (simG g).1 else (simG g).1
def nodesG (g : List Rl) : Nat := (g.map fun r => nodes r.2).sum
def simpG (g : List Rl) : List Rl := simN (nodesG g + 1) g

/-! where nothing is to be made simpler it is the same -/
theorem single_same : ∀ {e : Ex}, (singleS e).2 = false → (singleS e).1 = e
  | .mk k a b c d t [], _ => rfl
  | .mk k a b c d t (x :: xs), h => by
    rw [single_cons] at h ⊢
    split at h
    · cases h
    split at h
    · cases h
    split at h
    · cases h
    split at h
    · cases h
    rename_i h1 h2 h3 h4
    rw [if_neg h1, if_neg h2, if_neg h3, if_neg h4]
theorem list_same {g : List Rl} {fs : List Fa} {k : Int} : ∀ {xs l : List Ex}, (listS g fs k xs l).2 = false → (listS g fs k xs l).1 = l ++ xs
  | [], l, _ => by simp [listS]
  | x :: xs, l, h => by
    unfold listS at h ⊢
    split at h
    · cases h
    rename_i h1
    rw [if_neg h1]
    split at h
    · cases h
    rename_i h2
    rw [if_neg h2]
    rw [Bool.or_eq_false_iff] at h
    obtain ⟨h3, h4⟩ := h
    rw [h3, if_neg (by decide)] at h4
    rw [h3, if_neg (by decide)]
    simp only
    rw [list_same h4, List.append_assoc]
    rfl
theorem top_same {k a b c d : Int} {t : ByteArray} : ∀ {r : List Ex × Bool}, (topS k a b c d t r).2 = false → r.1 ≠ [] → (topS k a b c d t r).1 = .mk k a b c d t r.1 ∧ r.2 = false
  | ([], m), _, h => absurd rfl h
  | ([y], m), h, _ => by cases h
  | (y :: z :: l, m), h, _ => ⟨rfl, h⟩
theorem sim_same {g g' : List Rl} {fs : List Fa} (e : Ex) : Rt g' e → (simE g fs e).2 = false → (simE g fs e).1 = e := by
  refine Ex.ind (P := fun e => Rt g' e → (simE g fs e).2 = false → (simE g fs e).1 = e) ?_ e
  intro k a b c d t ks ih hR h
  cases hR with
  | mk _ _ _ _ _ _ _ hfit _ hkids =>
  have hk : ∀ l : List Ex, (∀ x ∈ l, x ∈ ks) → (simEs g fs l).2 = false → (simEs g fs l).1 = l := by
    intro l
    induction l with
    | nil => intro _ _; rfl
    | cons x xs ihl =>
      intro hm hs
      rw [simEs] at hs ⊢
      simp only [Bool.or_eq_false_iff] at hs ⊢
      rw [ih x (hm x (by simp)) (hkids x (hm x (by simp))) hs.1, ihl (fun y hy => hm y (by simp [hy])) hs.2]
  unfold simE at h ⊢
  by_cases h56 : k = 5 ∨ k = 6
  · rw [if_pos h56] at h ⊢
    simp only [Bool.or_eq_false_iff] at h ⊢
    rw [hk ks (fun x hx => hx) h.1] at h ⊢
    have hne : (listS g fs k ks []).1 ≠ [] → (topS k a b c d t (listS g fs k ks [])).1 = .mk k a b c d t ks := fun hne => by
      obtain ⟨h1, h2⟩ := top_same h.2 hne
      rw [h1, list_same h2, List.nil_append]
    refine hne fun he => ?_
    have h2 : (listS g fs k ks []).2 = false := by
      have := h.2
      generalize listS g fs k ks [] = r at this he
      obtain ⟨l, m⟩ := r
      simp only at he
      subst he
      exact this
    have := list_same h2
    rw [he, List.nil_append] at this
    have hfc := fit_cases hfit
    rw [← this] at hfc
    simp at hfc
    omega
  rw [if_neg h56] at h ⊢
  by_cases h9 : 9 ≤ k ∧ k ≤ 11
  · rw [if_pos h9] at h ⊢
    simp only [Bool.or_eq_false_iff] at h ⊢
    rw [hk ks (fun x hx => hx) h.1] at h ⊢
    exact single_same h.2
  · rw [if_neg h9] at h ⊢
    simp only at h ⊢
    rw [hk ks (fun x hx => hx) h]
theorem simG_same {g : List Rl} (hR : ∀ r ∈ g, Rt g r.2) (h : (simG g).2 = false) : (simG g).1 = g := by
  unfold simG at h ⊢
  simp only at h ⊢
  rw [List.any_eq_false] at h
  have : ∀ r ∈ g, (r.1, (simE g (factsG g) r.2).1) = r := fun r hr => by
    rw [sim_same r.2 (hR r hr) (by simpa using h r hr)]
  conv => rhs; rw [← List.map_id g]
  exact List.map_congr_left this

/-! nothing in it that must have been made simpler -/
mutual
def plnE : Ex → Bool
  | .mk k _ _ _ _ _ ks => plnEs k ks
def plnEs (k : Int) : List Ex → Bool
  | [] => true
  | x :: xs => plnE x && !(decide (k = 5) && decide (x.kd = 1)) && !((decide (k = 10) || decide (k = 11)) && (decide (x.kd = 10) || decide (x.kd = 11))) && !(decide (k = 9) && (decide (x.kd = 9) || decide (x.kd = 7) || decide (x.kd = 8))) && plnEs k xs
end
theorem plnEs_all (k : Int) : ∀ l : List Ex, (∀ x ∈ l, plnE x = true ∧ ¬ (k = 5 ∧ x.kd = 1) ∧ ¬ ((k = 10 ∨ k = 11) ∧ (x.kd = 10 ∨ x.kd = 11)) ∧ ¬ (k = 9 ∧ (x.kd = 9 ∨ x.kd = 7 ∨ x.kd = 8))) → plnEs k l = true
  | [], _ => by rw [plnEs]
  | x :: xs, h => by
    obtain ⟨h1, h2, h3, h4⟩ := h x (by simp)
    rw [plnEs, h1, plnEs_all k xs fun y hy => h y (by simp [hy])]
    simp
    omega
theorem list_pln {g : List Rl} {fs : List Fa} : ∀ {xs l : List Ex}, (listS g fs 5 xs l).2 = false → ∀ x ∈ xs, x.kd ≠ 1
  | [], _, _, x, hx => by cases hx
  | y :: xs, l, h, x, hx => by
    unfold listS at h
    split at h
    · cases h
    rename_i h1
    split at h
    · cases h
    rw [Bool.or_eq_false_iff] at h
    rcases List.mem_cons.1 hx with rfl | hx
    · exact fun e => h1 ⟨e, rfl⟩
    · exact list_pln h.2 x hx
theorem single_pln {k a b c d : Int} {t : ByteArray} {x : Ex} {xs : List Ex} (h : (singleS (.mk k a b c d t (x :: xs))).2 = false) :
    ¬ ((k = 10 ∨ k = 11) ∧ (x.kd = 10 ∨ x.kd = 11)) ∧ ¬ (k = 9 ∧ (x.kd = 9 ∨ x.kd = 7 ∨ x.kd = 8)) := by
  rw [single_cons] at h
  split at h
  · cases h
  split at h
  · cases h
  split at h
  · cases h
  split at h
  · cases h
  rename_i h1 h2 h3 h4
  omega
theorem sim_pln {g g' : List Rl} {fs : List Fa} (e : Ex) : Rt g' e → (simE g fs e).2 = false → plnE e = true := by
  refine Ex.ind (P := fun e => Rt g' e → (simE g fs e).2 = false → plnE e = true) ?_ e
  intro k a b c d t ks ih hR h
  have hR0 := hR
  cases hR with
  | mk _ _ _ _ _ _ _ hfit _ hkids =>
  have hks : (simEs g fs ks).2 = false := by
    unfold simE at h
    split at h
    · exact (Bool.or_eq_false_iff.1 h).1
    split at h
    · exact (Bool.or_eq_false_iff.1 h).1
    · exact h
  have hall : ∀ x ∈ ks, (simE g fs x).2 = false := by
    rw [simEs_any, List.any_eq_false] at hks
    exact fun x hx => by simpa using hks x hx
  have hsame : (simEs g fs ks).1 = ks := by
    rw [simEs_map]
    conv => rhs; rw [← List.map_id ks]
    exact List.map_congr_left fun x hx => sim_same x (hkids x hx) (hall x hx)
  rw [plnE]
  refine plnEs_all k ks fun x hx => ⟨ih x hx (hkids x hx) (hall x hx), fun ⟨h5, h1⟩ => ?_, fun h10 => ?_, fun h9 => ?_⟩
  · subst h5
    unfold simE at h
    rw [if_pos (.inl rfl), hsame] at h
    have h2 := (Bool.or_eq_false_iff.1 h).2
    have hl : (listS g fs 5 ks []).2 = false := by
      generalize listS g fs 5 ks [] = r at h2
      obtain ⟨l, m⟩ := r
      match l, h2 with
      | [], h2 => exact h2
      | [y], h2 => cases h2
      | y :: z :: l, h2 => exact h2
    exact list_pln hl x hx h1
  · have hfc := fit_cases hfit
    obtain ⟨y, rfl⟩ : ∃ y, ks = [y] := List.length_eq_one_iff.1 (by omega)
    obtain rfl : x = y := by simpa using hx
    unfold simE at h
    rw [if_neg (by omega), if_pos (by omega), hsame] at h
    exact (single_pln (Bool.or_eq_false_iff.1 h).2).1 h10
  · have hfc := fit_cases hfit
    obtain ⟨y, rfl⟩ : ∃ y, ks = [y] := List.length_eq_one_iff.1 (by omega)
    obtain rfl : x = y := by simpa using hx
    unfold simE at h
    rw [if_neg (by omega), if_pos (by omega), hsame] at h
    exact (single_pln (Bool.or_eq_false_iff.1 h).2).2 h9
end Go.Proofs.Ytefechceoeeonaa
