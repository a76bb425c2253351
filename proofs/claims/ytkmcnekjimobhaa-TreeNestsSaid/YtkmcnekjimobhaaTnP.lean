/- The trees that an expression's meaning takes on the way: plain. -/
import Derived.Test.YtkmcnekjimobhaaGK
import Derived.Test.YtkmcnekjimobhaaTr1
namespace Go.Proofs.Ytkmcnekjimobhaa

/-- the trees of what is to be done (where it succeeds) -/
def trJ (g : List Rl) (s : List UInt8) : Nat → Job → Nat → List Tr
  | 0, _, _ => []
  | n + 1, .ex (.mk k _ _ _ _ t ks), p =>
    if k = 1 ∨ k = 2 ∨ k = 3 then []
    else if k = 4 then (match g[(fnd g t.data.toList).toNat]? with
      | some r => (match evJ g s n (.ex r.2) p with
        | some (some q) => [.mk (fnd g t.data.toList).toNat p q (trJ g s n (.ex r.2) p)]
        | _ => [])
      | none => [])
    else if k = 5 then trJ g s n (.seq ks) p
    else if k = 6 then trJ g s n (.alt ks) p
    else (match ks with
      | [] => []
      | e :: _ => trJ g s n (.kid k e) p)
  | n + 1, .kid k e, p =>
    if k = 7 then trJ g s n (.rep e) p
    else if k = 8 then (match evJ g s n (.ex e) p with
      | some (some to) => trJ g s n (.ex e) p ++ trJ g s n (.rep e) to
      | _ => [])
    else if k = 9 then (match evJ g s n (.ex e) p with
      | some (some _) => trJ g s n (.ex e) p
      | _ => [])
    else []
  | _ + 1, .seq [], _ => []
  | n + 1, .seq (e :: es), p => match evJ g s n (.ex e) p with
    | some (some to) => trJ g s n (.ex e) p ++ trJ g s n (.seq es) to
    | _ => []
  | _ + 1, .alt [], _ => []
  | n + 1, .alt (e :: es), p => match evJ g s n (.ex e) p with
    | some (some _) => trJ g s n (.ex e) p
    | some none => trJ g s n (.alt es) p
    | none => []
  | n + 1, .rep e, p => match evJ g s n (.ex e) p with
    | some (some to) => trJ g s n (.ex e) p ++ trJ g s n (.rep e) to
    | _ => []

mutual
/-- a tree is what its rule takes at its place, and its kids lie within it, in order -/
inductive NestT (g : List Rl) (s : List UInt8) : Tr → Prop
  | mk (i p q : Nat) (r : Rl) (n : Nat) (ks : List Tr) : g[i]? = some r → ev g s n r.2 p = some (some q) → NestL g s p q ks → NestT g s (.mk i p q ks)
inductive NestL (g : List Rl) (s : List UInt8) : Nat → Nat → List Tr → Prop
  | nil (p q : Nat) : p ≤ q → NestL g s p q []
  | cons (p q i f u : Nat) (ks ts : List Tr) : p ≤ f → f ≤ u → NestT g s (.mk i f u ks) → NestL g s u q ts → NestL g s p q (.mk i f u ks :: ts)
end
theorem NestL.le {g : List Rl} {s : List UInt8} : ∀ {ts : List Tr} {p q : Nat}, NestL g s p q ts → p ≤ q
  | [], _, _, h => by cases h; assumption
  | _ :: ts, _, _, h => by
    cases h with
    | cons _ _ i f u ks _ h1 h2 h3 h4 =>
      have := NestL.le h4
      omega
theorem NestL.wide {g : List Rl} {s : List UInt8} : ∀ {ts : List Tr} {p a q : Nat}, NestL g s p a ts → a ≤ q → NestL g s p q ts
  | [], _, _, _, h, hq => by cases h; exact .nil _ _ (by omega)
  | _ :: ts, _, _, _, h, hq => by
    cases h with
    | cons _ _ i f u ks _ h1 h2 h3 h4 => exact .cons _ _ i f u ks _ h1 h2 h3 (NestL.wide h4 hq)
theorem NestL.app {g : List Rl} {s : List UInt8} {ys : List Tr} : ∀ {xs : List Tr} {p a q : Nat}, NestL g s p a xs → NestL g s a q ys → NestL g s p q (xs ++ ys)
  | [], p, a, q, h, h' => by
    cases h with
    | nil _ _ hpa =>
      rw [List.nil_append]
      cases h' with
      | nil _ _ hq => exact .nil _ _ (by omega)
      | cons _ _ i f u ks _ h1 h2 h3 h4 => exact .cons _ _ i f u ks _ (by omega) h2 h3 h4
  | _ :: xs, p, a, q, h, h' => by
    cases h with
    | cons _ _ i f u ks _ h1 h2 h3 h4 => exact .cons _ _ i f u ks _ h1 h2 h3 (NestL.app h4 h')
theorem nests {g : List Rl} {s : List UInt8} : ∀ (n : Nat) (j : Job) (p q : Nat), evJ g s n j p = some (some q) → NestL g s p q (trJ g s n j p)
  | 0, _, _, _, h => by cases h
  | n + 1, .ex (.mk k a b c d t ks), p, q, h => by
    rw [evJ.eq_def] at h
    dsimp only at h
    rw [trJ.eq_def]
    dsimp only
    by_cases h1 : k = 1
    · rw [if_pos h1] at h
      rw [if_pos (.inl h1)]
      injection h with h
      injection h with h
      exact .nil _ _ (by omega)
    rw [if_neg h1] at h
    by_cases h2 : k = 2
    · rw [if_pos h2] at h
      rw [if_pos (.inr (.inl h2))]
      injection h with h
      split at h
      · injection h with h
        exact .nil _ _ (by omega)
      · cases h
    rw [if_neg h2] at h
    by_cases h3 : k = 3
    · rw [if_pos h3] at h
      rw [if_pos (.inr (.inr h3))]
      injection h with h
      split at h
      · injection h with h
        exact .nil _ _ (by omega)
      · cases h
    rw [if_neg h3] at h
    rw [if_neg (by rintro (h | h | h) <;> contradiction)]
    by_cases h4 : k = 4
    · rw [if_pos h4] at h ⊢
      cases hr : g[(fnd g t.data.toList).toNat]? with
      | none => rw [hr] at h; cases h
      | some r =>
        rw [hr] at h
        dsimp only at h ⊢
        have hn := nests n (.ex r.2) p q h
        rw [h]
        exact .cons _ _ _ p q _ _ (Nat.le_refl _) hn.le (.mk _ p q r n _ hr h hn) (.nil _ _ (Nat.le_refl _))
    rw [if_neg h4] at h ⊢
    by_cases h5 : k = 5
    · rw [if_pos h5] at h ⊢
      exact nests n (.seq ks) p q h
    rw [if_neg h5] at h ⊢
    by_cases h6 : k = 6
    · rw [if_pos h6] at h ⊢
      exact nests n (.alt ks) p q h
    rw [if_neg h6] at h ⊢
    cases ks with
    | nil => cases h
    | cons e ks => exact nests n (.kid k e) p q h
  | n + 1, .kid k e, p, q, h => by
    rw [evJ.eq_def] at h
    dsimp only at h
    rw [trJ.eq_def]
    dsimp only
    by_cases h7 : k = 7
    · rw [if_pos h7] at h ⊢
      exact nests n (.rep e) p q h
    rw [if_neg h7] at h ⊢
    cases he : evJ g s n (.ex e) p with
    | none => rw [he] at h; cases h
    | some o =>
      rw [he] at h
      cases o with
      | none =>
        dsimp only at h ⊢
        injection h with h
        split at h
        · cases h
        · injection h with h
          subst h
          have : (if k = 8 then ([] : List Tr) else if k = 9 then [] else []) = [] := by simp
          rw [this]
          exact .nil _ _ (Nat.le_refl _)
      | some to =>
        dsimp only at h ⊢
        by_cases h8 : k = 8
        · rw [if_pos h8] at h ⊢
          exact (nests n (.ex e) p to he).app (nests n (.rep e) to q h)
        rw [if_neg h8] at h ⊢
        by_cases h9 : k = 9
        · rw [if_pos h9] at h ⊢
          injection h with h
          injection h with h
          subst h
          exact nests n (.ex e) p to he
        rw [if_neg h9] at h ⊢
        by_cases h10 : k = 10
        · rw [if_pos h10] at h
          injection h with h
          injection h with h
          exact .nil _ _ (by omega)
        · rw [if_neg h10] at h; cases h
  | n + 1, .seq [], p, q, h => by
    rw [evJ.eq_def] at h
    dsimp only at h
    rw [trJ.eq_def]
    dsimp only
    injection h with h
    injection h with h
    exact .nil _ _ (by omega)
  | n + 1, .seq (e :: es), p, q, h => by
    rw [evJ.eq_def] at h
    dsimp only at h
    rw [trJ.eq_def]
    dsimp only
    cases he : evJ g s n (.ex e) p with
    | none => rw [he] at h; cases h
    | some o =>
      rw [he] at h
      cases o with
      | none => cases h
      | some to => exact (nests n (.ex e) p to he).app (nests n (.seq es) to q h)
  | n + 1, .alt [], p, q, h => by rw [evJ.eq_def] at h; cases h
  | n + 1, .alt (e :: es), p, q, h => by
    rw [evJ.eq_def] at h
    dsimp only at h
    rw [trJ.eq_def]
    dsimp only
    cases he : evJ g s n (.ex e) p with
    | none => rw [he] at h; cases h
    | some o =>
      rw [he] at h
      cases o with
      | none => exact nests n (.alt es) p q h
      | some to =>
        dsimp only at h ⊢
        injection h with h
        injection h with h
        subst h
        exact nests n (.ex e) p to he
  | n + 1, .rep e, p, q, h => by
    rw [evJ.eq_def] at h
    dsimp only at h
    rw [trJ.eq_def]
    dsimp only
    cases he : evJ g s n (.ex e) p with
    | none => rw [he] at h; cases h
    | some o =>
      rw [he] at h
      cases o with
      | none =>
        injection h with h
        injection h with h
        exact .nil _ _ (by omega)
      | some to => exact (nests n (.ex e) p to he).app (nests n (.rep e) to q h)
end Go.Proofs.Ytkmcnekjimobhaa
