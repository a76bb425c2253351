/- The machine that parses: plain. -/
import Derived.Test.YtphfckihdhmhpaaSetH
namespace Go.Proofs.Ytphfckihdhmhpaa

/-- an instruction: its kind, its number, the words of its set -/
structure In where
  op : Int
  n : Int
  a : Nat
  b : Nat
  c : Nat
  d : Nat
def In.set (x : In) : List Nat := [x.a, x.b, x.c, x.d]
def In.zero (x : In) : Bool := (x.a : Int) == 0 && ((x.b : Int) == 0 && ((x.c : Int) == 0 && (x.d : Int) == 0))
def jumpsB (op : Int) : Bool := decide (op = 2 ∨ op = 3 ∨ op = 4 ∨ op = 5 ∨ op = 9 ∨ op = 10)
/-- may an instruction be so in a program of m? -/
def okIn (m : Nat) (x : In) : Bool := decide (1 ≤ x.op) && decide (x.op ≤ 11) && decide (0 ≤ x.n) && decide (x.n ≤ if jumpsB x.op then (m : Int) - 1 else 0) && (decide (x.op = 1) || x.zero)
def checkM (l : List In) : Int := if 6000 < l.length then 2 else if l.all (okIn l.length) then 0 else 3

/-- the machine: where it is, and what is to be gone back to (the last one first; a call has place -1) -/
structure MS where
  pc : Nat
  at_ : Nat
  st : List (Nat × Int)
def failL : List (Nat × Int) → Option (Nat × Nat × List (Nat × Int))
  | [] => none
  | (p, a) :: r => if 0 ≤ a then some (p, a.toNat, r) else failL r
/-- back to the last choice -/
def failM (st : List (Nat × Int)) : Except Int MS :=
  match failL st with
  | none => .error 0
  | some (p, a, r) => .ok ⟨p, a, r⟩
def pushM (pc at_ : Nat) (st : List (Nat × Int)) (x : Nat × Int) : Except Int MS := if st.length = 10000 then .error 14 else .ok ⟨pc, at_, x :: st⟩
/-- instructions that look at the last entry -/
def backM (x : In) (pc at_ : Nat) (st : List (Nat × Int)) : Except Int MS :=
  match st with
  | [] => .error 13
  | (p, a) :: r =>
    if decide (a < 0) = decide (x.op = 6) then
      if x.op = 6 then .ok ⟨p, at_, r⟩
      else if x.op = 4 then .ok ⟨x.n.toNat, at_, r⟩
      else if x.op = 9 then .ok ⟨x.n.toNat, at_, (p, at_) :: r⟩
      else if x.op = 10 then .ok ⟨x.n.toNat, a.toNat, r⟩
      else if x.op = 11 then failM r
      else .ok ⟨pc, at_, r⟩
    else .error 13
def oneM (s : List UInt8) (x : In) (m : MS) : Except Int MS :=
  if x.op = 1 then (if m.at_ = s.length ∨ hasN x.set (s.getD m.at_ 0).toNat = false then failM m.st else .ok ⟨m.pc + 1, m.at_ + 1, m.st⟩)
  else if x.op = 2 then .ok ⟨x.n.toNat, m.at_, m.st⟩
  else if x.op = 3 then pushM (m.pc + 1) m.at_ m.st (x.n.toNat, m.at_)
  else if x.op = 5 then pushM x.n.toNat m.at_ m.st (m.pc + 1, -1)
  else if x.op = 7 then failM m.st
  else backM x (m.pc + 1) m.at_ m.st
def runM (l : List In) (s : List UInt8) : Nat → MS → Bool × Nat × Int
  | k, m => match l[m.pc]? with
    | none => (false, 0, 13)
    | some x => match k with
      | 0 => (false, 0, 10)
      | k + 1 => if x.op = 8 then (true, m.at_, 0) else match oneM s x m with
        | .ok m' => runM l s k m'
        | .error e => (false, 0, e)
/-- with more steps it is the same -/
theorem runM_more (l : List In) (s : List UInt8) (j : Nat) : ∀ (k : Nat) (m : MS), (runM l s k m).2.2 ≠ 10 → runM l s (k + j) m = runM l s k m
  | 0, m, h => by
    rw [runM.eq_def] at h
    rw [runM.eq_def l s (0 + j) m, runM.eq_def l s 0 m]
    dsimp only at h ⊢
    cases hx : l[m.pc]? with
    | none => rfl
    | some x => rw [hx] at h; exact absurd rfl h
  | k + 1, m, h => by
    rw [runM.eq_def l s (k + 1) m] at h ⊢
    rw [show k + 1 + j = (k + j) + 1 from by omega, runM.eq_def l s (k + j + 1) m]
    dsimp only at h ⊢
    cases hx : l[m.pc]? with
    | none => rfl
    | some x =>
      rw [hx] at h
      dsimp only at h ⊢
      by_cases h8 : x.op = 8
      · rw [if_pos h8, if_pos h8]
      · rw [if_neg h8] at h ⊢
        rw [if_neg h8]
        cases ho : oneM s x m with
        | error e => rfl
        | ok m' =>
          rw [ho] at h
          exact runM_more l s j k m' h
/-- what code.Run answers -/
def codeM (l : List In) (s : List UInt8) (steps : Int) : Bool × Nat × Int :=
  if checkM l ≠ 0 then (false, 0, checkM l) else if 60 < s.length then (false, 0, 2) else if steps < 0 ∨ 16777216 < steps then (false, 0, 1) else runM l s steps.toNat ⟨0, 0, []⟩
theorem codeM_more (l : List In) (s : List UInt8) (i j : Nat) (hi : i < 5000) (hj : j < 5000) (h : (codeM l s i).2.2 ≠ 10) : codeM l s ((i : Int) + j) = codeM l s i := by
  unfold codeM at h ⊢
  by_cases h1 : checkM l ≠ 0
  · rw [if_pos h1, if_pos h1]
  · rw [if_neg h1] at h ⊢
    rw [if_neg h1]
    by_cases h2 : 60 < s.length
    · rw [if_pos h2, if_pos h2]
    · rw [if_neg h2, if_neg (by omega)] at h ⊢
      rw [if_neg h2, if_neg (by omega)]
      rw [show ((i : Int) + j).toNat = i + j from by omega, show ((i : Int)).toNat = i from rfl] at *
      exact runM_more l s j i _ h
end Go.Proofs.Ytphfckihdhmhpaa
