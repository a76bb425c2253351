/- How many steps an expression takes: plain. -/
import Derived.Test.YtjmckmjngnmagaaGK
namespace Go.Proofs.Ytjmckmjngnmagaa

/-- the steps that are taken, with what evJ says at the same fuel -/
def cost (g : List Rl) (s : List UInt8) : Nat → Job → Nat → Nat
  | 0, _, _ => 0
  | n + 1, .ex (.mk k _ _ _ _ t ks), p =>
    if k = 1 ∨ k = 2 ∨ k = 3 then 1
    else if k = 4 then (match g[(fnd g t.data.toList).toNat]? with
      | some r => 1 + cost g s n (.ex r.2) p
      | none => 1)
    else if k = 5 then 1 + cost g s n (.seq ks) p
    else if k = 6 then 1 + cost g s n (.alt ks) p
    else (match ks with
      | [] => 1
      | e :: _ => 1 + cost g s n (.kid k e) p)
  | n + 1, .kid k e, p =>
    if k = 7 then cost g s n (.rep e) p
    else match evJ g s n (.ex e) p with
      | some (some to) => if k = 8 then cost g s n (.ex e) p + cost g s n (.rep e) to else cost g s n (.ex e) p
      | _ => cost g s n (.ex e) p
  | _ + 1, .seq [], _ => 0
  | n + 1, .seq (e :: es), p => match evJ g s n (.ex e) p with
    | some (some to) => cost g s n (.ex e) p + cost g s n (.seq es) to
    | _ => cost g s n (.ex e) p
  | _ + 1, .alt [], _ => 0
  | n + 1, .alt (e :: es), p => match evJ g s n (.ex e) p with
    | some none => cost g s n (.ex e) p + cost g s n (.alt es) p
    | _ => cost g s n (.ex e) p
  | n + 1, .rep e, p => match evJ g s n (.ex e) p with
    | some (some to) => cost g s n (.ex e) p + cost g s n (.rep e) to
    | _ => cost g s n (.ex e) p
theorem cost_ex (g : List Rl) (s : List UInt8) (n : Nat) (k a b c d : Int) (t : ByteArray) (ks : List Ex) (p : Nat) : cost g s (n + 1) (.ex (.mk k a b c d t ks)) p =
    if k = 1 ∨ k = 2 ∨ k = 3 then 1
    else if k = 4 then (match g[(fnd g t.data.toList).toNat]? with
      | some r => 1 + cost g s n (.ex r.2) p
      | none => 1)
    else if k = 5 then 1 + cost g s n (.seq ks) p
    else if k = 6 then 1 + cost g s n (.alt ks) p
    else (match ks with
      | [] => 1
      | e :: _ => 1 + cost g s n (.kid k e) p) := rfl
theorem cost_pos (g : List Rl) (s : List UInt8) (n : Nat) (e : Ex) (p : Nat) (o : Option Nat) (h : ev g s n e p = some o) : 1 ≤ cost g s n (.ex e) p := by
  cases n with
  | zero => cases h
  | succ n =>
    obtain ⟨k, a, b, c, d, t, ks⟩ := e
    rw [cost_ex]
    by_cases h1 : k = 1 ∨ k = 2 ∨ k = 3
    · rw [if_pos h1]; exact Nat.le_refl 1
    rw [if_neg h1]
    by_cases h4 : k = 4
    · rw [if_pos h4]
      cases g[(fnd g t.data.toList).toNat]? with
      | none => exact Nat.le_refl 1
      | some r => exact Nat.le_add_right _ _
    rw [if_neg h4]
    by_cases h5 : k = 5
    · rw [if_pos h5]; exact Nat.le_add_right _ _
    rw [if_neg h5]
    by_cases h6 : k = 6
    · rw [if_pos h6]; exact Nat.le_add_right _ _
    rw [if_neg h6]
    cases ks with
    | nil => exact Nat.le_refl 1
    | cons e es => exact Nat.le_add_right _ _
end Go.Proofs.Ytjmckmjngnmagaa
