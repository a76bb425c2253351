/- What stands for an expression: as good, with the same facts, meaning the same, no larger; plain. -/
import Derived.Test.YtefechceoeeonaaSiD
import Derived.Test.YtefechceoeeonaaSeM
namespace Go.Proofs.Ytefechceoeeonaa
open Go.RowKit

theorem ofEs_map (g : List Rl) (kn : List Fa) : ∀ ks : List Ex, ofEs g kn ks = ks.map (ofE g kn)
  | [] => by rw [ofEs]; rfl
  | e :: es => by rw [ofEs, ofEs_map g kn es]; rfl
def faE : Fa := ⟨true, false, false⟩
def faN : Fa := ⟨false, false, true⟩
theorem then_nil (x : Fa) : thenF faE x = x := by obtain ⟨a, b, c⟩ := x; simp [thenF, faE]
theorem then_unit (x : Fa) : thenF x faE = x := by obtain ⟨a, b, c⟩ := x; simp [thenF, faE]
theorem then_assoc (x y z : Fa) : thenF (thenF x y) z = thenF x (thenF y z) := by
  obtain ⟨a, b, c⟩ := x; obtain ⟨d, e, f⟩ := y; obtain ⟨p, q, r⟩ := z
  simp only [thenF, Fa.mk.injEq]
  revert a b c d e f p q r
  decide
theorem or_unit (x : Fa) : orF x faN = x := by obtain ⟨a, b, c⟩ := x; simp [orF, faN]
theorem or_assoc (x y z : Fa) : orF (orF x y) z = orF x (orF y z) := by
  obtain ⟨a, b, c⟩ := x; obtain ⟨d, e, f⟩ := y; obtain ⟨p, q, r⟩ := z
  simp only [orF, Fa.mk.injEq]
  revert a b c d e f p q r
  decide
theorem or_cut {x : Fa} (y : Fa) (h : x.f = false) : orF x y = x := by obtain ⟨a, b, c⟩ := x; simp only at h; subst h; simp [orF]
theorem fold_then : ∀ (l : List Fa) (x : Fa), l.foldl thenF x = thenF x (l.foldl thenF faE)
  | [], x => (then_unit x).symm
  | y :: l, x => by rw [List.foldl_cons, fold_then l, List.foldl_cons, then_nil, fold_then l y, then_assoc]
theorem seqF_fold : ∀ {l : List Fa}, l ≠ [] → seqF l = l.foldl thenF faE
  | [], h => absurd rfl h
  | x :: l, _ => by rw [seqF, List.foldl_cons, then_nil]
theorem fold_or : ∀ (l : List Fa) (y : Fa), l.foldr orF y = orF (l.foldr orF faN) y
  | [], y => by simp [orF, faN]
  | x :: l, y => by rw [List.foldr_cons, List.foldr_cons, fold_or l y, or_assoc]
theorem altF_fold : ∀ {l : List Fa}, l ≠ [] → altF l = l.foldr orF faN
  | [], h => absurd rfl h
  | [x], _ => by rw [altF]; exact (or_unit x).symm
  | x :: y :: l, _ => by rw [altF, altF_fold (by simp)]; rfl

mutual
/-- how deep it goes -/
def dep : Ex → Nat
  | .mk _ _ _ _ _ _ ks => 1 + depAll ks
def depAll : List Ex → Nat
  | [] => 0
  | e :: es => max (dep e) (depAll es)
end
theorem depAll_app : ∀ l m : List Ex, depAll (l ++ m) = max (depAll l) (depAll m)
  | [], m => by simp [depAll]
  | e :: l, m => by rw [List.cons_append, depAll, depAll, depAll_app l m, Nat.max_assoc]
theorem nodesAll_app : ∀ l m : List Ex, nodesAll (l ++ m) = nodesAll l + nodesAll m
  | [], m => by simp [nodesAll]
  | e :: l, m => by rw [List.cons_append, nodesAll, nodesAll, nodesAll_app l m, Nat.add_assoc]

/-! meanings, told by what they are made of -/
section
variable {g : List Rl} {s : List UInt8}
def SemS (g : List Rl) (s : List UInt8) (es : List Ex) (p : Nat) (o : Option Nat) : Prop := ∃ n, evS g s n es p = some o
def SemA (g : List Rl) (s : List UInt8) (es : List Ex) (p : Nat) (o : Option Nat) : Prop := ∃ n, evA g s n es p = some o
def SemR (g : List Rl) (s : List UInt8) (e : Ex) (p : Nat) (o : Option Nat) : Prop := ∃ n, evR g s n e p = some o
theorem semS_nil {p : Nat} {o : Option Nat} : SemS g s [] p o ↔ o = some p :=
  ⟨fun ⟨n, h⟩ => by cases n with
    | zero => cases h
    | succ n => rw [evS_nil] at h; injection h with h; exact h.symm, fun h => ⟨1, by rw [h, evS_nil]⟩⟩
theorem semA_nil {p : Nat} {o : Option Nat} : SemA g s [] p o ↔ o = none :=
  ⟨fun ⟨n, h⟩ => by cases n with
    | zero => cases h
    | succ n => rw [evA_nil] at h; injection h with h; exact h.symm, fun h => ⟨1, by rw [h, evA_nil]⟩⟩
theorem semS_cons {e : Ex} {es : List Ex} {p : Nat} {o : Option Nat} : SemS g s (e :: es) p o ↔ (∃ q, Sem g s e p (some q) ∧ SemS g s es q o) ∨ (Sem g s e p none ∧ o = none) := by
  constructor
  · rintro ⟨n, h⟩
    cases n with
    | zero => cases h
    | succ n =>
      rw [evS_cons] at h
      cases he : ev g s n e p with
      | none => rw [he] at h; cases h
      | some u =>
        rw [he] at h
        cases u with
        | none => injection h with h; exact .inr ⟨⟨n, he⟩, h.symm⟩
        | some q => exact .inl ⟨q, ⟨n, he⟩, ⟨n, h⟩⟩
  · rintro (⟨q, h1, h2⟩ | ⟨h1, rfl⟩)
    · exact semS_next h1 h2
    · exact semS_stop h1
theorem semA_cons {e : Ex} {es : List Ex} {p : Nat} {o : Option Nat} : SemA g s (e :: es) p o ↔ (Sem g s e p none ∧ SemA g s es p o) ∨ (∃ q, Sem g s e p (some q) ∧ o = some q) := by
  constructor
  · rintro ⟨n, h⟩
    cases n with
    | zero => cases h
    | succ n =>
      rw [evA_cons] at h
      cases he : ev g s n e p with
      | none => rw [he] at h; cases h
      | some u =>
        rw [he] at h
        cases u with
        | none => exact .inl ⟨⟨n, he⟩, ⟨n, h⟩⟩
        | some q => injection h with h; exact .inr ⟨q, ⟨n, he⟩, h.symm⟩
  · rintro (⟨h1, h2⟩ | ⟨q, h1, rfl⟩)
    · exact semA_next h1 h2
    · exact semA_stop h1
theorem semR_iff {e : Ex} {p : Nat} {o : Option Nat} : SemR g s e p o ↔ (Sem g s e p none ∧ o = some p) ∨ ∃ q, Sem g s e p (some q) ∧ SemR g s e q o := by
  constructor
  · rintro ⟨n, h⟩
    cases n with
    | zero => cases h
    | succ n =>
      rw [evR_s] at h
      cases he : ev g s n e p with
      | none => rw [he] at h; cases h
      | some u =>
        rw [he] at h
        cases u with
        | none => injection h with h; exact .inl ⟨⟨n, he⟩, h.symm⟩
        | some q => exact .inr ⟨q, ⟨n, he⟩, ⟨n, h⟩⟩
  · rintro (⟨h1, rfl⟩ | ⟨q, h1, h2⟩)
    · exact semR_stop h1
    · exact semR_next h1 h2
theorem sem5 {a b c d : Int} {t : ByteArray} {ks : List Ex} {p : Nat} {o : Option Nat} : Sem g s (.mk 5 a b c d t ks) p o ↔ SemS g s ks p o :=
  ⟨fun ⟨n, h⟩ => by
    cases n with
    | zero => cases h
    | succ n => rw [ev_s, if_neg (by decide), if_neg (by decide), if_neg (by decide), if_neg (by decide), if_pos rfl] at h; exact ⟨n, h⟩, sem_of_S⟩
theorem sem6 {a b c d : Int} {t : ByteArray} {ks : List Ex} {p : Nat} {o : Option Nat} : Sem g s (.mk 6 a b c d t ks) p o ↔ SemA g s ks p o :=
  ⟨fun ⟨n, h⟩ => by
    cases n with
    | zero => cases h
    | succ n => rw [ev_s, if_neg (by decide), if_neg (by decide), if_neg (by decide), if_neg (by decide), if_neg (by decide), if_pos rfl] at h; exact ⟨n, h⟩, sem_of_A⟩
theorem semK_iff {k a b c d : Int} {t : ByteArray} {x : Ex} {ks : List Ex} {p : Nat} {o : Option Nat} (h7 : 7 ≤ k) : Sem g s (.mk k a b c d t (x :: ks)) p o ↔ ∃ n, evK g s n k x p = some o :=
  ⟨fun ⟨n, h⟩ => by
    cases n with
    | zero => cases h
    | succ n => rw [ev_s, if_neg (by omega), if_neg (by omega), if_neg (by omega), if_neg (by omega), if_neg (by omega), if_neg (by omega)] at h; exact ⟨n, h⟩, sem_of_K h7⟩
theorem sem7 {a b c d : Int} {t : ByteArray} {x : Ex} {p : Nat} {o : Option Nat} : Sem g s (.mk 7 a b c d t [x]) p o ↔ SemR g s x p o := by
  rw [semK_iff (by decide)]
  exact ⟨fun ⟨n, h⟩ => by
    cases n with
    | zero => cases h
    | succ n => rw [evK_s, if_pos rfl] at h; exact ⟨n, h⟩, semK_star⟩
theorem sem8 {a b c d : Int} {t : ByteArray} {x : Ex} {p : Nat} {o : Option Nat} : Sem g s (.mk 8 a b c d t [x]) p o ↔ (Sem g s x p none ∧ o = none) ∨ ∃ q, Sem g s x p (some q) ∧ SemR g s x q o := by
  rw [semK_iff (by decide)]
  constructor
  · rintro ⟨n, h⟩
    cases n with
    | zero => cases h
    | succ n =>
      rw [evK_s, if_neg (by decide)] at h
      cases he : ev g s n x p with
      | none => rw [he] at h; cases h
      | some u =>
        rw [he] at h
        cases u with
        | none => simp at h; exact .inl ⟨⟨n, he⟩, h.symm⟩
        | some q => simp only [if_pos] at h; exact .inr ⟨q, ⟨n, he⟩, ⟨n, h⟩⟩
  · rintro (⟨⟨n, h⟩, rfl⟩ | ⟨q, ⟨n, h⟩, ⟨m, h'⟩⟩)
    · exact ⟨n + 1, by rw [evK_s, if_neg (by decide), h]; simp⟩
    · exact ⟨max n m + 1, by rw [evK_s, if_neg (by decide), ev_le h (Nat.le_max_left _ _)]; simp only [if_pos]; exact evR_le h' (Nat.le_max_right _ _)⟩
/-- what an option, a look makes of what its kid comes to -/
def lookK (k : Int) (p : Nat) : Option Nat → Option Nat
  | none => if k = 10 then none else some p
  | some q => if k = 9 then some q else if k = 10 then some p else none
theorem sem9 {k a b c d : Int} {t : ByteArray} {x : Ex} {p : Nat} {o : Option Nat} (hk : 9 ≤ k) (hk' : k ≤ 11) : Sem g s (.mk k a b c d t [x]) p o ↔ ∃ u, Sem g s x p u ∧ o = lookK k p u := by
  rw [semK_iff (by omega)]
  constructor
  · rintro ⟨n, h⟩
    cases n with
    | zero => cases h
    | succ n =>
      rw [evK_s, if_neg (by omega)] at h
      cases he : ev g s n x p with
      | none => rw [he] at h; cases h
      | some u =>
        rw [he] at h
        refine ⟨u, ⟨n, he⟩, ?_⟩
        cases u with
        | none =>
          simp only at h
          injection h with h
          rw [← h, lookK]
          by_cases h10 : k = 10
          · rw [if_pos (.inr h10), if_pos h10]
          · rw [if_neg (by omega), if_neg h10]
        | some q =>
          simp only at h
          rw [if_neg (by omega)] at h
          simp only [lookK]
          by_cases h9 : k = 9
          · rw [if_pos h9] at h ⊢; injection h with h; exact h.symm
          rw [if_neg h9] at h ⊢
          by_cases h10 : k = 10
          · rw [if_pos h10] at h ⊢; injection h with h; exact h.symm
          · rw [if_neg h10] at h ⊢; injection h with h; exact h.symm
  · rintro ⟨u, ⟨n, h⟩, rfl⟩
    refine ⟨n + 1, ?_⟩
    rw [evK_s, if_neg (by omega), h]
    cases u with
    | none =>
      simp only [lookK]
      by_cases h10 : k = 10
      · rw [if_pos (.inr h10), if_pos h10]
      · rw [if_neg (by omega), if_neg h10]
    | some q =>
      simp only [lookK]
      rw [if_neg (by omega)]
      split
      · rfl
      split <;> rfl
theorem semS_app : ∀ {l m : List Ex} {p : Nat} {o : Option Nat}, SemS g s (l ++ m) p o ↔ (∃ q, SemS g s l p (some q) ∧ SemS g s m q o) ∨ (SemS g s l p none ∧ o = none)
  | [], m, p, o => by
    rw [List.nil_append]
    constructor
    · exact fun h => .inl ⟨p, semS_nil.2 rfl, h⟩
    · rintro (⟨q, h1, h2⟩ | ⟨h1, _⟩)
      · rw [semS_nil] at h1; injection h1 with h1; rw [← h1]; exact h2
      · rw [semS_nil] at h1; cases h1
  | e :: l, m, p, o => by
    rw [List.cons_append, semS_cons]
    constructor
    · rintro (⟨q, h1, h2⟩ | ⟨h1, rfl⟩)
      · rcases (semS_app (l := l)).1 h2 with ⟨r, h3, h4⟩ | ⟨h3, rfl⟩
        · exact .inl ⟨r, semS_cons.2 (.inl ⟨q, h1, h3⟩), h4⟩
        · exact .inr ⟨semS_cons.2 (.inl ⟨q, h1, h3⟩), rfl⟩
      · exact .inr ⟨semS_cons.2 (.inr ⟨h1, rfl⟩), rfl⟩
    · rintro (⟨r, h1, h2⟩ | ⟨h1, rfl⟩)
      · rcases semS_cons.1 h1 with ⟨q, h3, h4⟩ | ⟨_, h4⟩
        · exact .inl ⟨q, h3, (semS_app (l := l)).2 (.inl ⟨r, h4, h2⟩)⟩
        · cases h4
      · rcases semS_cons.1 h1 with ⟨q, h3, h4⟩ | ⟨h3, _⟩
        · exact .inl ⟨q, h3, (semS_app (l := l)).2 (.inr ⟨h4, rfl⟩)⟩
        · exact .inr ⟨h3, rfl⟩
theorem semA_app : ∀ {l m : List Ex} {p : Nat} {o : Option Nat}, SemA g s (l ++ m) p o ↔ (SemA g s l p none ∧ SemA g s m p o) ∨ (∃ q, SemA g s l p (some q) ∧ o = some q)
  | [], m, p, o => by
    rw [List.nil_append]
    constructor
    · exact fun h => .inl ⟨semA_nil.2 rfl, h⟩
    · rintro (⟨_, h2⟩ | ⟨q, h1, _⟩)
      · exact h2
      · rw [semA_nil] at h1; cases h1
  | e :: l, m, p, o => by
    rw [List.cons_append, semA_cons]
    constructor
    · rintro (⟨h1, h2⟩ | ⟨q, h1, rfl⟩)
      · rcases (semA_app (l := l)).1 h2 with ⟨h3, h4⟩ | ⟨q, h3, rfl⟩
        · exact .inl ⟨semA_cons.2 (.inl ⟨h1, h3⟩), h4⟩
        · exact .inr ⟨q, semA_cons.2 (.inl ⟨h1, h3⟩), rfl⟩
      · exact .inr ⟨q, semA_cons.2 (.inr ⟨q, h1, rfl⟩), rfl⟩
    · rintro (⟨h1, h2⟩ | ⟨q, h1, rfl⟩)
      · rcases semA_cons.1 h1 with ⟨h3, h4⟩ | ⟨q, _, h4⟩
        · exact .inl ⟨h3, (semA_app (l := l)).2 (.inl ⟨h4, h2⟩)⟩
        · cases h4
      · rcases semA_cons.1 h1 with ⟨h3, h4⟩ | ⟨q', h3, h4⟩
        · exact .inl ⟨h3, (semA_app (l := l)).2 (.inr ⟨q, h4, rfl⟩)⟩
        · exact .inr ⟨q', h3, h4⟩
end

section
variable {g : List Rl} {fs : List Fa}
/-- one expression stands for another -/
structure Lik (g : List Rl) (fs : List Fa) (e e' : Ex) : Prop where
  good : GoodE g fs e'
  fa : ∀ kn, LeL faOrd kn fs → ofE g kn e' = ofE g kn e
  so : ∀ kn, soundE g fs kn e = true → soundE g fs kn e' = true
  sem : ∀ (s : List UInt8) p o, p ≤ s.length → Sem g s e p o → Sem g s e' p o
  sz : nodes e' ≤ nodes e
  dp : dep e' ≤ dep e
theorem Lik.refl {e : Ex} (h : GoodE g fs e) : Lik g fs e e := ⟨h, fun _ _ => rfl, fun _ h => h, fun _ _ _ _ h => h, Nat.le_refl _, Nat.le_refl _⟩
theorem Lik.trans {e e' e'' : Ex} (h : Lik g fs e e') (h' : Lik g fs e' e'') : Lik g fs e e'' :=
  ⟨h'.good, fun kn hk => (h'.fa kn hk).trans (h.fa kn hk), fun kn hk => h'.so kn (h.so kn hk), fun s p o hp hs => h'.sem s p o hp (h.sem s p o hp hs), Nat.le_trans h'.sz h.sz, Nat.le_trans h'.dp h.dp⟩
/-- one sequence stands for another -/
structure SqL (g : List Rl) (fs : List Fa) (l m : List Ex) : Prop where
  good : ∀ e ∈ m, GoodE g fs e
  fa : ∀ kn, LeL faOrd kn fs → ∀ x, (m.map (ofE g kn)).foldl thenF x = (l.map (ofE g kn)).foldl thenF x
  so : ∀ kn r, soundS g fs kn (l ++ r) = true → soundS g fs kn (m ++ r) = true
  sem : ∀ (s : List UInt8) p o, p ≤ s.length → SemS g s l p o → SemS g s m p o
  sz : nodesAll m ≤ nodesAll l
  dp : depAll m ≤ depAll l
/-- alternatives stand for others -/
structure AlL (g : List Rl) (fs : List Fa) (l m : List Ex) : Prop where
  good : ∀ e ∈ m, GoodE g fs e
  fa : ∀ kn, LeL faOrd kn fs → ∀ y, (m.map (ofE g kn)).foldr orF y = (l.map (ofE g kn)).foldr orF y
  so : ∀ kn, (∀ e ∈ l, soundE g fs kn e = true) → ∀ e ∈ m, soundE g fs kn e = true
  sem : ∀ (s : List UInt8) p o, p ≤ s.length → SemA g s l p o → SemA g s m p o
  sz : nodesAll m ≤ nodesAll l
  dp : depAll m ≤ depAll l
theorem SqL.refl {l : List Ex} (h : ∀ e ∈ l, GoodE g fs e) : SqL g fs l l := ⟨h, fun _ _ _ => rfl, fun _ _ h => h, fun _ _ _ _ h => h, Nat.le_refl _, Nat.le_refl _⟩
theorem AlL.refl {l : List Ex} (h : ∀ e ∈ l, GoodE g fs e) : AlL g fs l l := ⟨h, fun _ _ _ => rfl, fun _ h => h, fun _ _ _ _ h => h, Nat.le_refl _, Nat.le_refl _⟩
theorem SqL.trans {l m q : List Ex} (h : SqL g fs l m) (h' : SqL g fs m q) : SqL g fs l q :=
  ⟨h'.good, fun kn hk x => (h'.fa kn hk x).trans (h.fa kn hk x), fun kn r hk => h'.so kn r (h.so kn r hk), fun s p o hp hs => h'.sem s p o hp (h.sem s p o hp hs), Nat.le_trans h'.sz h.sz, Nat.le_trans h'.dp h.dp⟩
theorem AlL.trans {l m q : List Ex} (h : AlL g fs l m) (h' : AlL g fs m q) : AlL g fs l q :=
  ⟨h'.good, fun kn hk x => (h'.fa kn hk x).trans (h.fa kn hk x), fun kn hk => h'.so kn (h.so kn hk), fun s p o hp hs => h'.sem s p o hp (h.sem s p o hp hs), Nat.le_trans h'.sz h.sz, Nat.le_trans h'.dp h.dp⟩
/-- how far a right expression, a right sequence goes -/
theorem sem_le (H : Fits g fs) {s : List UInt8} {e : Ex} (hr : Rt g e) {p q : Nat} (hp : p ≤ s.length) (h : Sem g s e p (some q)) : p ≤ q ∧ q ≤ s.length := by
  obtain ⟨n, h⟩ := h
  have := (told H n).1 e p _ hr hp h
  exact ⟨this.1, this.2.1⟩
theorem semS_le (H : Fits g fs) {s : List UInt8} : ∀ {l : List Ex}, (∀ e ∈ l, GoodE g fs e) → ∀ {p q : Nat}, p ≤ s.length → SemS g s l p (some q) → p ≤ q ∧ q ≤ s.length
  | [], _, p, q, hp, h => by rw [semS_nil] at h; injection h with h; omega
  | e :: l, hg, p, q, hp, h => by
    rcases semS_cons.1 h with ⟨r, h1, h2⟩ | ⟨_, h2⟩
    · have := sem_le H (hg e (by simp)).rt hp h1
      have := semS_le H (fun x hx => hg x (by simp [hx])) this.2 h2
      omega
    · cases h2
theorem soundS_pre {kn : List Bool} {l m : List Ex} (h : soundS g fs kn l = true → soundS g fs kn m = true) : ∀ a : List Ex, soundS g fs kn (a ++ l) = true → soundS g fs kn (a ++ m) = true
  | [], hs => h hs
  | x :: a, hs => by
    rw [List.cons_append, soundS] at hs ⊢
    split at hs
    · cases hs
    rename_i h1
    rw [if_neg h1]
    split at hs
    · rename_i h2; rw [if_pos h2]
    rename_i h2
    rw [if_neg h2]
    exact soundS_pre h a hs
theorem SqL.pre (H : Fits g fs) {l m a : List Ex} (ha : ∀ e ∈ a, GoodE g fs e) (h : SqL g fs l m) : SqL g fs (a ++ l) (a ++ m) := by
  refine ⟨fun e he => ?_, fun kn hk x => ?_, fun kn r hs => ?_, fun s p o hp hs => ?_, ?_, ?_⟩
  · rcases List.mem_append.1 he with he | he
    · exact ha e he
    · exact h.good e he
  · rw [List.map_append, List.map_append, List.foldl_append, List.foldl_append, h.fa kn hk]
  · rw [List.append_assoc] at hs ⊢
    exact soundS_pre (h.so kn r) a hs
  · rw [semS_app] at hs ⊢
    rcases hs with ⟨q, h1, h2⟩ | h1
    · exact .inl ⟨q, h1, h.sem s q o (semS_le H ha hp h1).2 h2⟩
    · exact .inr h1
  · rw [nodesAll_app, nodesAll_app]; have := h.sz; omega
  · rw [depAll_app, depAll_app]; have := h.dp; omega
theorem SqL.post {l m b : List Ex} (hb : ∀ e ∈ b, GoodE g fs e) (h : SqL g fs l m) : SqL g fs (l ++ b) (m ++ b) := by
  refine ⟨fun e he => ?_, fun kn hk x => ?_, fun kn r hs => ?_, fun s p o hp hs => ?_, ?_, ?_⟩
  · rcases List.mem_append.1 he with he | he
    · exact h.good e he
    · exact hb e he
  · rw [List.map_append, List.map_append, List.foldl_append, List.foldl_append, h.fa kn hk]
  · rw [List.append_assoc] at hs ⊢
    exact h.so kn _ hs
  · rw [semS_app] at hs ⊢
    rcases hs with ⟨q, h1, h2⟩ | ⟨h1, h2⟩
    · exact .inl ⟨q, h.sem s p _ hp h1, h2⟩
    · exact .inr ⟨h.sem s p _ hp h1, h2⟩
  · rw [nodesAll_app, nodesAll_app]; have := h.sz; omega
  · rw [depAll_app, depAll_app]; have := h.dp; omega
theorem AlL.app {l m a b : List Ex} (h : AlL g fs l m) (h' : AlL g fs a b) : AlL g fs (l ++ a) (m ++ b) := by
  refine ⟨fun e he => ?_, fun kn hk x => ?_, fun kn hs e he => ?_, fun s p o hp hs => ?_, ?_, ?_⟩
  · rcases List.mem_append.1 he with he | he
    · exact h.good e he
    · exact h'.good e he
  · rw [List.map_append, List.map_append, List.foldr_append, List.foldr_append, h'.fa kn hk, h.fa kn hk]
  · rcases List.mem_append.1 he with he | he
    · exact h.so kn (fun x hx => hs x (List.mem_append_left _ hx)) e he
    · exact h'.so kn (fun x hx => hs x (List.mem_append_right _ hx)) e he
  · rw [semA_app] at hs ⊢
    rcases hs with ⟨h1, h2⟩ | ⟨q, h1, h2⟩
    · exact .inl ⟨h.sem s p _ hp h1, h'.sem s p o hp h2⟩
    · exact .inr ⟨q, h.sem s p _ hp h1, h2⟩
  · rw [nodesAll_app, nodesAll_app]; have := h.sz; have := h'.sz; omega
  · rw [depAll_app, depAll_app]; have := h.dp; have := h'.dp; omega
theorem SqL.one {e e' : Ex} (h : Lik g fs e e') : SqL g fs [e] [e'] := by
  refine ⟨fun x hx => ?_, fun kn hk x => ?_, fun kn r hs => ?_, fun s p o hp hs => ?_, ?_, ?_⟩
  · simp only [List.mem_singleton] at hx; rw [hx]; exact h.good
  · simp only [List.map_cons, List.map_nil, List.foldl_cons, List.foldl_nil]; rw [h.fa kn hk]
  · rw [List.singleton_append, soundS] at hs ⊢
    rw [h.fa fs (LeL.refl _ _)]
    split at hs
    · cases hs
    rename_i h1
    rw [if_neg (by rw [h.so kn (by simpa using h1)]; decide)]
    exact hs
  · rw [semS_cons] at hs ⊢
    rcases hs with ⟨q, h1, h2⟩ | ⟨h1, h2⟩
    · exact .inl ⟨q, h.sem s p _ hp h1, semS_nil.2 (semS_nil.1 h2)⟩
    · exact .inr ⟨h.sem s p _ hp h1, h2⟩
  · simp only [nodesAll]; have := h.sz; omega
  · simp only [depAll]; have := h.dp; omega
theorem AlL.one {e e' : Ex} (h : Lik g fs e e') : AlL g fs [e] [e'] := by
  refine ⟨fun x hx => ?_, fun kn hk x => ?_, fun kn hs x hx => ?_, fun s p o hp hs => ?_, ?_, ?_⟩
  · simp only [List.mem_singleton] at hx; rw [hx]; exact h.good
  · simp only [List.map_cons, List.map_nil, List.foldr_cons, List.foldr_nil]; rw [h.fa kn hk]
  · simp only [List.mem_singleton] at hx; rw [hx]; exact h.so kn (hs e (by simp))
  · rw [semA_cons] at hs ⊢
    rcases hs with ⟨h1, h2⟩ | ⟨q, h1, h2⟩
    · exact .inl ⟨h.sem s p _ hp h1, semA_nil.2 (semA_nil.1 h2)⟩
    · exact .inr ⟨q, h.sem s p _ hp h1, h2⟩
  · simp only [nodesAll]; have := h.sz; omega
  · simp only [depAll]; have := h.dp; omega
/-- kid by kid -/
theorem SqL.map (H : Fits g fs) {f : Ex → Ex} : ∀ {l : List Ex}, (∀ e ∈ l, GoodE g fs e) → (∀ e ∈ l, Lik g fs e (f e)) → SqL g fs l (l.map f)
  | [], _, _ => .refl fun e he => by cases he
  | e :: l, hg, h => by
    have h1 := SqL.one (h e (by simp))
    have h2 := SqL.map H (f := f) (l := l) (fun x hx => hg x (by simp [hx])) fun x hx => h x (by simp [hx])
    have h3 := (h1.post (b := l) fun x hx => hg x (by simp [hx])).trans (h2.pre H (a := [f e]) h1.good)
    exact h3
theorem AlL.map {f : Ex → Ex} : ∀ {l : List Ex}, (∀ e ∈ l, Lik g fs e (f e)) → AlL g fs l (l.map f)
  | [], _ => .refl fun e he => by cases he
  | e :: l, h => (AlL.one (h e (by simp))).app (AlL.map (f := f) (l := l) fun x hx => h x (by simp [hx]))
/-- what says nothing is left out -/
theorem SqL.skip {x : Ex} (hx : GoodE g fs x) (h1 : x.kd = 1) : SqL g fs [x] [] := by
  obtain ⟨k, a, b, c, d, t, ks⟩ := x
  obtain rfl : k = 1 := h1
  have hof : ∀ kn, ofE g kn (.mk 1 a b c d t ks) = faE := fun kn => by rw [ofE, if_pos rfl]; rfl
  refine ⟨fun e he => (by cases he), fun kn _ y => ?_, fun kn r hs => ?_, fun s p o hp hs => ?_, by simp [nodesAll], by simp [depAll]⟩
  · simp only [List.map_cons, List.map_nil, List.foldl_cons, List.foldl_nil]; rw [hof, then_unit]
  · rw [List.singleton_append, soundS, hof] at hs
    split at hs
    · cases hs
    rw [if_neg (by simp [faE])] at hs
    exact hs
  · have h2 : Sem g s (.mk 1 a b c d t ks) p (some p) := ⟨1, by rw [ev_s, if_pos rfl]⟩
    rcases semS_cons.1 hs with ⟨q, h3, h4⟩ | ⟨h3, _⟩
    · have := h2.eq h3
      injection this with this
      subst this
      exact h4
    · have := h2.eq h3
      cases this
theorem soundS_flat {kn : List Bool} {r : List Ex} : ∀ {ks : List Ex}, soundS g fs kn ks = true → ((ks.map (ofE g fs)).foldl thenF faE).e = false ∨ soundS g fs kn r = true → soundS g fs kn (ks ++ r) = true
  | [], _, h => by
    rcases h with h | h
    · simp [faE] at h
    · exact h
  | x :: ks, hs, h => by
    rw [List.cons_append, soundS] at *
    split at hs
    · cases hs
    rename_i h1
    rw [if_neg h1]
    split at hs
    · rename_i h2; rw [if_pos h2]
    rename_i h2
    rw [if_neg h2]
    refine soundS_flat hs (h.imp_left fun h => ?_)
    rw [List.map_cons, List.foldl_cons, then_nil, fold_then] at h
    simp only [thenF, Bool.and_eq_false_iff] at h
    exact h.resolve_left h2
theorem GoodE.kid {k a b c d : Int} {t : ByteArray} {ks : List Ex} (h : GoodE g fs (.mk k a b c d t ks)) : ∀ e ∈ ks, GoodE g fs e := h.kids.1
theorem GoodE.five {a b c d : Int} {t : ByteArray} {ks : List Ex} (h : GoodE g fs (.mk 5 a b c d t ks)) : 2 ≤ ks.length ∧ ks.length ≤ 8 := by
  have := fit_cases h.kids.2.1
  omega
theorem GoodE.six {a b c d : Int} {t : ByteArray} {ks : List Ex} (h : GoodE g fs (.mk 6 a b c d t ks)) : 2 ≤ ks.length ∧ ks.length ≤ 8 := by
  have := fit_cases h.kids.2.1
  omega
theorem of5 {kn : List Fa} {a b c d : Int} {t : ByteArray} {ks : List Ex} (h : ks ≠ []) : ofE g kn (.mk 5 a b c d t ks) = (ks.map (ofE g kn)).foldl thenF faE := by
  rw [ofE, if_neg (by decide), if_neg (by decide), if_neg (by decide), if_neg (by decide), if_pos rfl, ofEs_map, seqF_fold (by simpa using h)]
theorem of6 {kn : List Fa} {a b c d : Int} {t : ByteArray} {ks : List Ex} (h : ks ≠ []) : ofE g kn (.mk 6 a b c d t ks) = (ks.map (ofE g kn)).foldr orF faN := by
  rw [ofE, if_neg (by decide), if_neg (by decide), if_neg (by decide), if_neg (by decide), if_neg (by decide), if_pos rfl, ofEs_map, altF_fold (by simpa using h)]
theorem ne_of_len {l : List Ex} (h : 0 < l.length) : l ≠ [] := fun e => by rw [e] at h; simp at h
/-- a sequence within a sequence -/
theorem SqL.flat {a b c d : Int} {t : ByteArray} {ks : List Ex} (h : GoodE g fs (.mk 5 a b c d t ks)) : SqL g fs [.mk 5 a b c d t ks] ks := by
  have hne : ks ≠ [] := ne_of_len (by have := h.five; omega)
  refine ⟨h.kid, fun kn _ y => ?_, fun kn r hs => ?_, fun s p o hp hs => ?_, ?_, ?_⟩
  · simp only [List.map_cons, List.map_nil, List.foldl_cons, List.foldl_nil]
    rw [of5 hne, ← fold_then]
  · rw [List.singleton_append, soundS, of5 hne] at hs
    split at hs
    · cases hs
    rename_i h1
    rw [soundE, if_neg (by decide), if_pos rfl] at h1
    refine soundS_flat (by simpa using h1) ?_
    split at hs
    · rename_i h2; exact .inl h2
    · exact .inr hs
  · rcases semS_cons.1 hs with ⟨q, h3, h4⟩ | ⟨h3, h4⟩
    · rw [semS_nil] at h4
      rw [h4]
      exact sem5.1 h3
    · rw [h4]
      exact sem5.1 h3
  · simp only [nodesAll, nodes]; omega
  · simp only [depAll, dep]; omega
theorem soundA_all {kn : List Bool} : ∀ {ks : List Ex}, soundA g fs kn ks = true ↔ ∀ e ∈ ks, soundE g fs kn e = true
  | [] => by simp [soundA]
  | x :: ks => by
    rw [soundA]
    by_cases h : soundE g fs kn x = true
    · rw [if_neg (by rw [h]; decide), soundA_all]
      simp [h]
    · rw [if_pos (by simpa using h)]
      simp [h]
/-- alternatives within alternatives -/
theorem AlL.flat {a b c d : Int} {t : ByteArray} {ks : List Ex} (h : GoodE g fs (.mk 6 a b c d t ks)) : AlL g fs [.mk 6 a b c d t ks] ks := by
  have hne : ks ≠ [] := ne_of_len (by have := h.six; omega)
  refine ⟨h.kid, fun kn _ y => ?_, fun kn hs => ?_, fun s p o hp hs => ?_, ?_, ?_⟩
  · simp only [List.map_cons, List.map_nil, List.foldr_cons, List.foldr_nil]
    rw [of6 hne, ← fold_or]
  · have h1 := hs (.mk 6 a b c d t ks) (by simp)
    rw [soundE, if_neg (by decide), if_neg (by decide)] at h1
    exact soundA_all.1 h1
  · rcases semA_cons.1 hs with ⟨h3, h4⟩ | ⟨q, h3, h4⟩
    · rw [semA_nil] at h4
      rw [h4]
      exact sem6.1 h3
    · rw [h4]
      exact sem6.1 h3
  · simp only [nodesAll, nodes]; omega
  · simp only [depAll, dep]; omega
/-- alternatives behind one that can't fail -/
theorem AlL.cut (H : Fits g fs) {x : Ex} {xs : List Ex} (h : GoodE g fs x) (hf : (ofE g fs x).f = false) : AlL g fs (x :: xs) [x] := by
  refine ⟨fun e he => ?_, fun kn hk y => ?_, fun kn hs e he => ?_, fun s p o hp hs => ?_, ?_, ?_⟩
  · simp only [List.mem_singleton] at he; rw [he]; exact h
  · have hm := (of_mono (g := g) hk x).2.2
    have hf' : (ofE g kn x).f = false := by
      cases hh : (ofE g kn x).f
      · rfl
      · rw [hm hh] at hf; cases hf
    simp only [List.map_cons, List.map_nil, List.foldr_cons, List.foldr_nil]
    rw [or_cut _ hf', or_cut _ hf']
  · simp only [List.mem_singleton] at he; rw [he]; exact hs x (by simp)
  · rcases semA_cons.1 hs with ⟨⟨n, h3⟩, _⟩ | ⟨q, h3, h4⟩
    · have := (told H n).1 x p _ h.rt hp h3
      have : (ofE g fs x).f = true := this
      rw [this] at hf
      cases hf
    · exact semA_cons.2 (.inr ⟨q, h3, h4⟩)
  · simp only [nodesAll]; omega
  · simp only [depAll]; omega
end
end Go.Proofs.Ytefechceoeeonaa
