/- list.Accepts: what it answers; the errors that a look may tell. -/
import Derived.Test.YtlamphneimpdlaaPkO
import Derived.Test.YtlamphneimpdlaaPlA
import Derived.BigQuiet
import Derived.Deep.QuietTactic
namespace Go.Proofs.Ytlamphneimpdlaa
open Go.RowKit Go.Maps

theorem look_lt : ∀ (e : Ex) (n d : Nat), 0 ≤ (lookN e n d).1 ∧ (lookN e n d).1 ≤ 5 := by
  intro e
  refine Ex.ind (P := fun e => ∀ (n d : Nat), 0 ≤ (lookN e n d).1 ∧ (lookN e n d).1 ≤ 5) ?_ e
  intro k a b c d t ks ih n dp
  rw [lookN]
  split
  · simp only; omega
  split
  · simp only; omega
  split
  · simp only; omega
  · have : ∀ (es : List Ex), (∀ e ∈ es, e ∈ ks) → ∀ n d, 0 ≤ (looks es n d).1 ∧ (looks es n d).1 ≤ 5 := by
      intro es
      induction es with
      | nil => intro _ n d; rw [looks]; simp only; omega
      | cons e es ihe =>
        intro hm n d
        rw [looks]
        split
        · exact ihe (fun x hx => hm x (by simp [hx])) _ _
        · exact ih e (hm e (by simp)) n d
    exact this ks (fun e he => he) _ _
theorem check_lt (g : List Rl) : 0 ≤ checkG g ∧ checkG g ≤ 7 := by
  have h1 : ∀ (l : List Rl) (i all : Nat), 0 ≤ (chk1 g l i all).1 ∧ (chk1 g l i all).1 ≤ 7 := by
    intro l
    induction l with
    | nil => intro i all; rw [chk1]; simp only; omega
    | cons r l ih =>
      intro i all
      rw [chk1]
      split
      · simp only; omega
      split
      · simp only; omega
      split
      · have := look_lt r.2 0 1
        simp only
        unfold checkE
        omega
      · exact ih _ _
  have h2 : ∀ (l : List Rl), 0 ≤ chk2 g l ∧ chk2 g l ≤ 7 := by
    intro l
    induction l with
    | nil => rw [chk2]; omega
    | cons r l ih =>
      rw [chk2]
      split
      · omega
      · exact ih
  unfold checkG
  split
  · omega
  split
  · omega
  split
  · exact h1 g 0 0
  split
  · omega
  · exact h2 g
theorem lookG_lt (g : List Rl) (s : ByteArray) : 0 ≤ lookG g s ∧ lookG g s ≤ 9 := by
  have h := check_lt g
  have hw : 0 ≤ (wellG g).2 ∧ (wellG g).2 ≤ 9 := by
    unfold wellG
    split
    · simp only; omega
    · split
      · simp only; omega
      · split <;> simp only <;> omega
  unfold lookG
  split
  · exact hw
  · split <;> omega

section
variable {g : List Rl} {s : List UInt8} {hook : Bool} {fs : List Fa}
/-- what a try makes is what the grammar means -/
theorem pk_goesA (H : Fits g fs) {n m num p : Nat} {e : Ex} {u u' : Option Nat} {σ σ1 : PS} (hrt : Rt g e) (hp : p ≤ s.length) (he : ev g s n e p = some u) (hσ : Agree g s σ) (h : pk g s hook m (.try_ e num) p σ = some (u', σ1)) : u' = u ∧ Agree g s σ1 := by
  obtain ⟨m0, σ0, h0, ha, _⟩ := ((goes (hook := hook) H n).1 e p u hrt hp he σ num hσ).try_
  have e1 := pk_le h0 (Nat.le_max_left m0 m)
  have e2 := pk_le h (Nat.le_max_right m0 m)
  rw [e1] at e2
  injection e2 with e2
  injection e2 with e2 e3
  subst e2 e3
  exact ⟨rfl, ha⟩
end
/-- what Run finds is what the grammar means -/
theorem sem_run {g : List Rl} (W : WellG g) {s : List UInt8} {n m : Nat} {r : Rl} {o o' : Option Nat} {σ1 : PS} (hr : g[0]? = some r) (he : ev g s n r.2 0 = some o) (hpk : pk g s false m (.rule 0) 0 ps0 = some (o', σ1)) : o' = o := by
  cases m with
  | zero => cases hpk
  | succ m =>
    have H := fits_of W.right
    have hrt := W.right.rt r (List.mem_of_getElem? hr)
    simp only [pk] at hpk
    have h0 : recall ps0.seen (0, 0) = none := rfl
    rw [h0, hr] at hpk
    simp only at hpk
    cases hq : pk g s false m (.try_ r.2 (firstN g 0)) 0 ps0 with
    | none => rw [hq] at hpk; cases hpk
    | some x =>
      obtain ⟨u, σ2⟩ := x
      obtain ⟨rfl, _⟩ := pk_goesA (hook := false) H hrt (Nat.zero_le _) he (agree0 g s) hq
      rw [hq] at hpk
      simp only at hpk
      split at hpk
      · cases hpk
      · simp only [Option.some.injEq, Prod.mk.injEq] at hpk
        obtain ⟨rfl, rfl⟩ := hpk
        rfl

/-- what a grammar makes of a text -/
noncomputable def outG (g : List Rl) (s : ByteArray) : Option Nat := Classical.epsilon fun o => ∃ r, g[0]? = some r ∧ Sem g s.data.toList r.2 0 o
theorem outG_is {g : List Rl} {s : ByteArray} {r : Rl} {o : Option Nat} (hr : g[0]? = some r) (h : Sem g s.data.toList r.2 0 o) : outG g s = o := by
  obtain ⟨r', hr', h'⟩ := Classical.epsilon_spec (p := fun o => ∃ r, g[0]? = some r ∧ Sem g s.data.toList r.2 0 o) ⟨o, r, hr, h⟩
  rw [hr] at hr'
  injection hr' with hr'
  subst hr'
  exact h'.eq h
theorem run_out {g : List Rl} {s : ByteArray} (hl0 : lookG g s = 0) {m : Nat} {o : Option Nat} {σ1 : PS} (h : pk g s.data.toList false m (.rule 0) 0 ps0 = some (o, σ1)) : outG g s = o ∧ ∀ k, o = some k → k ≤ s.size := by
  obtain ⟨W, h60⟩ := look_zero hl0
  have hpos := W.right.pos
  obtain ⟨r, hr⟩ : ∃ r, g[0]? = some r := ⟨_, List.getElem?_eq_getElem hpos⟩
  obtain ⟨n, o', he⟩ := ends (s := s.data.toList) W (p := 0) (by omega) (W.good (List.mem_of_getElem? hr))
  obtain rfl := sem_run W hr he h
  refine ⟨outG_is hr ⟨n, he⟩, fun k hk => ?_⟩
  have ht := (told (s := s.data.toList) (fits_of W.right) n).1 r.2 0 o (W.right.rt r (List.mem_of_getElem? hr)) (by omega) he
  rw [hk] at ht
  have := ht.2.1
  rw [size_list] at this
  exact this
/-- what list.Accepts answers -/
noncomputable def accG (g : List Rl) (s : ByteArray) : Bool := decide (lookG g s = 0) && ((outG g s).isSome && decide ((outG g s).getD 0 = s.size))

set_option maxRecDepth 100000 in
set_option maxHeartbeats 4000000 in
theorem acc_any {g : List Rl} {A : Option Addr} {cp : Nat} {row : Nat → List Value} {w : World} (h : GrIs w w.heap.size g A cp row) (hwf : ∀ r ∈ g, WfE r.2) (s : ByteArray) :
    Calls Try.prog 22 #[.agg #[.slice A g.length cp], .string s] w fun e w' => e = .returned (.tuple #[.bool (accG g s), .int .i64 (lookG g s)]) ∧ Below w.heap.size w w' := by
  have hrn := fun W (hW : Below w.heap.size w W) => run_any (h.grow hW) hwf s
  have HR := Lib.hid hrn
  generalize hY : accG g s = Y
  generalize hX : lookG g s = X
  have HY := Lib.hid hY
  have HX := Lib.hid hX
  clear hrn h hwf hX hY
  go_enter Try.func22, Try.ntmps22
  go_wp2_with fail
  refine (HR.out _ (by repeat (first | exact Below.refl _ _ | assumption | refine Below.drew ?_ | refine below_drewN ?_ _ | refine Below.alloc ?_ (by first | omega | (simp; omega) | simp) _ | refine Below.setCell ?_ (by first | omega | (simp; omega) | simp) _))).mono ?_
  rintro e w1 ⟨hb1, hq⟩
  have hw1 : Below w.heap.size w w1 := ((Below.refl _ w).alloc (Nat.le_refl _) _).trans (hb1.mono (by simp))
  have hz1 := hw1.size
  clear hb1
  rcases hq with ⟨hne, rfl⟩ | ⟨hl0, o, σ1, V, lc, l', ⟨m, hpk⟩, ha, ht, hl, rfl, ho⟩
  · rw [HX.out] at hne ⊢
    have hxb : (X == 0) = false := by rw [beq_eq_false_iff_ne]; exact hne
    obtain rfl : Y = false := by rw [← HY.out]; unfold accG; rw [HX.out, decide_eq_false hne, Bool.false_and]
    rw [outV_eq]
    clear hne HX HY
    go_wp2
    go_ret2
    exact ⟨rfl, (by repeat (first | exact Below.refl _ _ | assumption | refine Below.drew ?_ | refine below_drewN ?_ _ | refine Below.alloc ?_ (by first | omega | (simp; omega) | simp) _ | refine Below.setCell ?_ (by first | omega | (simp; omega) | simp) _))⟩
  · clear ha ht hl ho
    obtain ⟨h1, h2⟩ := run_out hl0 hpk
    have hy : Y = (o.isSome && decide (o.getD 0 = s.size)) := by rw [← HY.out]; unfold accG; rw [hl0, h1]; rfl
    obtain rfl : X = 0 := by rw [← HX.out]; exact hl0
    rw [outV_eq]
    clear hl0 hpk h1 h2 HX HY
    generalize σ1.log.length = ll
    cases o with
    | none =>
      obtain rfl : Y = false := hy
      go_wp2
      go_ret2
      exact ⟨rfl, (by repeat (first | exact Below.refl _ _ | assumption | refine Below.drew ?_ | refine below_drewN ?_ _ | refine Below.alloc ?_ (by first | omega | (simp; omega) | simp) _ | refine Below.setCell ?_ (by first | omega | (simp; omega) | simp) _))⟩
    | some k =>
      have hy2 : Y = decide (k = s.size) := hy
      have hk : ((k : Int) == (s.size : Int)) = decide (k = s.size) := by rw [Bool.eq_iff_iff]; simp; omega
      rw [← hk] at hy2
      clear hk hy
      subst hy2
      simp only [Option.isSome_some, Option.getD_some]
      go_wp2
      go_ret2
      exact ⟨rfl, (by repeat (first | exact Below.refl _ _ | assumption | refine Below.drew ?_ | refine below_drewN ?_ _ | refine Below.alloc ?_ (by first | omega | (simp; omega) | simp) _ | refine Below.setCell ?_ (by first | omega | (simp; omega) | simp) _))⟩

end Go.Proofs.Ytlamphneimpdlaa
