/- How high the tree of a meaning is, how many kids its nodes have: plain. list.Accepts: what it answers; the errors that a look may tell. chafftop.begun. The walk of the law TopTree. The law TopTree: for every input it returns true, and each argument reads afterwards as it read before. The frame is written by a program of ours after the guide's own shell; the walk is in the text it imports. Conditions: none but the statement's own. -/
import Derived.Test.YtndhbdbfjkmloaaJTopTree13
import Derived.Test.YtndhbdbfjkmloaaJTopTree16
import Derived.Test.YtndhbdbfjkmloaaJTopTree19
import Derived.Test.YtndhbdbfjkmloaaJTopTree12
import Derived.Test.YtndhbdbfjkmloaaJTopTree11
import Derived.BigQuiet
import Derived.Deep.QuietTactic
import Derived.Test.YtndhbdbfjkmloaaJTopTree17
import Derived.Test.YtndhbdbfjkmloaaRows
import Derived.Test.YtndhbdbfjkmloaaJTopTree8
import Derived.Test.YtndhbdbfjkmloaaJTopTree0
namespace Go.Proofs.Ytndhbdbfjkmloaa

section
variable {g : List Rl} {s : List UInt8} {fs : List Fa} {kn : List Bool}
/-- no tree that starts at p is higher, where what is known is sound -/
structure HiK (g : List Rl) (s : List UInt8) (fs : List Fa) (kn : List Bool) (p K n : Nat) : Prop where
  ex : ∀ e, GoodE g fs e → soundE g fs kn e = true → hiS (trJ g s n (.ex e) p) ≤ K
  seq : ∀ es, (∀ e ∈ es, GoodE g fs e) → soundS g fs kn es = true → hiS (trJ g s n (.seq es) p) ≤ K
  alt : ∀ es, (∀ e ∈ es, GoodE g fs e) → (∀ e ∈ es, soundE g fs kn e = true) → hiS (trJ g s n (.alt es) p) ≤ K
  rep : ∀ e, GoodE g fs e → soundE g fs kn e = true → (ofE g fs e).e = false → hiS (trJ g s n (.rep e) p) ≤ K
  kid : ∀ k e, GoodE g fs e → soundE g fs kn e = true → (k = 7 ∨ k = 8 → (ofE g fs e).e = false) → hiS (trJ g s n (.kid k e) p) ≤ K
/-- .. where nothing is asked to be sound -/
structure HiF (g : List Rl) (s : List UInt8) (fs : List Fa) (p K n : Nat) : Prop where
  seq : ∀ es, (∀ e ∈ es, GoodE g fs e) → hiS (trJ g s n (.seq es) p) ≤ K
  rep : ∀ e, GoodE g fs e → (ofE g fs e).e = false → hiS (trJ g s n (.rep e) p) ≤ K
theorem cnt_setE : ∀ {o : List Bool} {i : Nat}, o[i]? = some false → (o.set i true).count true = o.count true + 1
  | [], i, h => by simp at h
  | b :: o, 0, h => by
    simp only [List.getElem?_cons_zero, Option.some.injEq] at h
    subst h
    simp
  | b :: o, i + 1, h => by
    have := cnt_setE (o := o) (i := i) (by simpa using h)
    rw [List.set_cons_succ, List.count_cons, List.count_cons, this]
    omega
theorem soundS_ofE : ∀ {es : List Ex}, (∀ e ∈ es, soundE g fs kn e = true) → soundS g fs kn es = true
  | [], _ => by rw [soundS]
  | x :: es, h => by
    rw [soundS, h x (by simp), if_neg (by decide)]
    split
    · rfl
    · exact soundS_ofE fun e he => h e (by simp [he])
theorem hi_step (H : Fits g fs) {p K : Nat} (hp : p ≤ s.length) (hout : ∀ q, p < q → q ≤ s.length → ∀ n, HiF g s fs q K n)
    (hkn : ∀ (i : Nat) (r : Rl), kn[i]? = some true → g[i]? = some r → ∀ n, 1 + hiS (trJ g s n (.ex r.2) p) ≤ K) : ∀ n, HiK g s fs kn p K n := by
  intro n
  induction n with
  | zero => exact ⟨fun _ _ _ => (by rw [trJ]; exact Nat.zero_le _), fun _ _ _ => (by rw [trJ]; exact Nat.zero_le _), fun _ _ _ => (by rw [trJ]; exact Nat.zero_le _), fun _ _ _ _ => (by rw [trJ]; exact Nat.zero_le _), fun _ _ _ _ _ => (by rw [trJ]; exact Nat.zero_le _)⟩
  | succ n ih =>
    have hrest : ∀ e tq, GoodE g fs e → (ofE g fs e).e = false → evJ g s n (.ex e) p = some (some tq) → hiS (trJ g s n (.rep e) tq) ≤ K := fun e tq hg hne he => by
      have ht := told_of H hg hp he
      exact (hout tq (ht.2.2 hne) ht.2.1 n).rep e hg hne
    refine ⟨?_, ?_, ?_, ?_, ?_⟩
    · rintro ⟨k, a, b, c, d, t, ks⟩ hg hs
      obtain ⟨hkids, hfit, hname, hloop⟩ := hg.kids
      have hfc := fit_cases hfit
      rw [soundE] at hs
      rw [trJ.eq_def]
      dsimp only
      by_cases h1 : k = 1 ∨ k = 2 ∨ k = 3
      · rw [if_pos h1]; exact Nat.zero_le _
      rw [if_neg h1]
      by_cases h4 : k = 4
      · rw [if_pos h4] at hs ⊢
        obtain ⟨r, hr, _⟩ := fnd_at (hname h4)
        rw [hr]
        dsimp only
        have hk := hkn _ r (sound_at hs) hr n
        split
        · rw [hiS, hiS, hiT, Nat.max_eq_left (Nat.zero_le _)]; exact hk
        · exact Nat.zero_le _
      rw [if_neg h4] at hs ⊢
      by_cases h5 : k = 5
      · rw [if_pos h5] at hs ⊢
        exact ih.seq ks hkids hs
      rw [if_neg h5] at hs ⊢
      have hall := soundA_all hs
      by_cases h6 : k = 6
      · rw [if_pos h6]
        exact ih.alt ks hkids hall
      rw [if_neg h6]
      match ks, show ks.length = 1 by omega with
      | [e], _ => exact ih.kid k e (hkids e (by simp)) (hall e (by simp)) fun hk => hloop hk e rfl
    · rintro es hgs hs
      cases es with
      | nil => rw [trJ.eq_def]; exact Nat.zero_le _
      | cons e es =>
        rw [soundS] at hs
        rw [trJ.eq_def]
        dsimp only
        split at hs
        · cases hs
        rename_i hse
        have hse : soundE g fs kn e = true := by simpa using hse
        have hge := hgs e (by simp)
        split
        · rename_i tq he
          have ht := told_of H hge hp he
          rw [hiS_app]
          refine Nat.max_le.2 ⟨ih.ex e hge hse, ?_⟩
          rcases Nat.lt_or_ge p tq with hpt | hpt
          · exact (hout tq hpt ht.2.1 n).seq es fun x hx => hgs x (by simp [hx])
          · obtain rfl : tq = p := by omega
            split at hs
            · rename_i hne
              have := ht.2.2 (by simpa using hne)
              omega
            · exact ih.seq es (fun x hx => hgs x (by simp [hx])) hs
        · exact Nat.zero_le _
    · rintro es hgs hs
      cases es with
      | nil => rw [trJ.eq_def]; exact Nat.zero_le _
      | cons e es =>
        rw [trJ.eq_def]
        dsimp only
        split
        · exact ih.ex e (hgs e (by simp)) (hs e (by simp))
        · exact ih.alt es (fun x hx => hgs x (by simp [hx])) fun x hx => hs x (by simp [hx])
        · exact Nat.zero_le _
    · rintro e hg hs hne
      rw [trJ.eq_def]
      dsimp only
      split
      · rename_i tq he
        rw [hiS_app]
        exact Nat.max_le.2 ⟨ih.ex e hg hs, hrest e tq hg hne he⟩
      · exact Nat.zero_le _
    · rintro k e hg hs hloop
      rw [trJ.eq_def]
      dsimp only
      by_cases h7 : k = 7
      · rw [if_pos h7]
        exact ih.rep e hg hs (hloop (.inl h7))
      rw [if_neg h7]
      by_cases h8 : k = 8
      · rw [if_pos h8]
        split
        · rename_i tq he
          rw [hiS_app]
          exact Nat.max_le.2 ⟨ih.ex e hg hs, hrest e tq hg (hloop (.inr h8)) he⟩
        · exact Nat.zero_le _
      rw [if_neg h8]
      by_cases h9 : k = 9
      · rw [if_pos h9]
        split
        · exact ih.ex e hg hs
        · exact Nat.zero_le _
      · rw [if_neg h9]; exact Nat.zero_le _
theorem hi_all (W : WellG g) : ∀ (m p : Nat), s.length - p = m → p ≤ s.length → ∀ n, HiK g s (factsG g) (knownG g (factsG g)) p (11 * m + 11) n := by
  intro m
  induction m using Nat.strongRecOn with
  | _ m ih =>
    intro p hm hp
    have H := fits_of W.right
    have hso : ∀ e, GoodE g (factsG g) e → soundE g (factsG g) (knownG g (factsG g)) e = true := fun e he => sound_true W.known e he.rt
    have hout : ∀ q, p < q → q ≤ s.length → ∀ n, HiF g s (factsG g) q (11 * m) n := fun q h1 h2 n => by
      have h := ih (s.length - q) (by omega) q rfl h2 n
      have hle : 11 * (s.length - q) + 11 ≤ 11 * m := by omega
      exact ⟨fun es hes => Nat.le_trans (h.seq es hes (soundS_ofE fun e he => hso e (hes e he))) hle, fun e he hne => Nat.le_trans (h.rep e he (hso e he) hne) hle⟩
    have hmore : ∀ {K K' : Nat}, K ≤ K' → (∀ q, p < q → q ≤ s.length → ∀ n, HiF g s (factsG g) q K n) → ∀ q, p < q → q ≤ s.length → ∀ n, HiF g s (factsG g) q K' n := fun hk h q h1 h2 n => ⟨fun es hes => Nat.le_trans ((h q h1 h2 n).seq es hes) hk, fun e he hne => Nat.le_trans ((h q h1 h2 n).rep e he hne) hk⟩
    have hrules : ∀ (i : Nat) (r : Rl), (knownG g (factsG g))[i]? = some true → g[i]? = some r → ∀ n, 1 + hiS (trJ g s n (.ex r.2) p) ≤ 11 * m + (knownG g (factsG g)).count true := by
      have key : (knownG g (factsG g)).length = g.length ∧ ∀ (i : Nat) (r : Rl), (knownG g (factsG g))[i]? = some true → g[i]? = some r → soundE g (factsG g) (knownG g (factsG g)) r.2 = true ∧ ∀ n, 1 + hiS (trJ g s n (.ex r.2) p) ≤ 11 * m + (knownG g (factsG g)).count true := by
        refine (grow_keeps (nx := nxB g (factsG g)) (P := fun kn => kn.length = g.length ∧ ∀ (i : Nat) (r : Rl), kn[i]? = some true → g[i]? = some r → soundE g (factsG g) kn r.2 = true ∧ ∀ n, 1 + hiS (trJ g s n (.ex r.2) p) ≤ 11 * m + kn.count true) (fun kn i h hi hne => ⟨by simp; exact h.1, fun j r hj hr => ?_⟩) _ _ ⟨by simp, fun i r hi _ => ?_⟩).1
        · have hx : kn[i]? = some kn[i] := List.getElem?_eq_getElem hi
          obtain ⟨ri, hri⟩ : ∃ r, g[i]? = some r := ⟨_, List.getElem?_eq_getElem (by have := h.1; omega)⟩
          have hnx : nxB g (factsG g) kn i = soundE g (factsG g) kn ri.2 := by unfold nxB; rw [hri]
          rw [hnx] at hne hj ⊢
          generalize kn[i] = b at hx
          cases b with
          | true =>
            have := (h.2 i ri hx hri).1
            rw [this] at hne
            exact absurd hx hne
          | false =>
            have hs : soundE g (factsG g) kn ri.2 = true := by
              cases hh : soundE g (factsG g) kn ri.2 with
              | true => rfl
              | false => rw [hh] at hne; exact absurd hx hne
            rw [hs] at hj ⊢
            have hLe := leL_true hx
            rw [cnt_setE hx]
            by_cases hij : i = j
            · subst hij
              obtain rfl : ri = r := by rw [hri] at hr; injection hr
              refine ⟨sound_mono hLe _ hs, fun n => ?_⟩
              have h1 := (hi_step H hp (hmore (by omega) hout) (K := 11 * m + kn.count true) (fun i r hi hr n => (h.2 i r hi hr).2 n) n).ex ri.2 ⟨W.right.rt _ (List.mem_of_getElem? hri), W.noloop _ (List.mem_of_getElem? hri)⟩ hs
              omega
            · rw [List.getElem?_set_ne hij] at hj
              obtain ⟨q1, q2⟩ := h.2 j r hj hr
              exact ⟨sound_mono hLe _ q1, fun n => by have := q2 n; omega⟩
        · rw [List.getElem?_replicate] at hi
          split at hi
          · injection hi with hi; cases hi
          · cases hi
      exact fun i r hi hr n => (key.2 i r hi hr).2 n
    have hc : (knownG g (factsG g)).count true ≤ 10 := by
      have h1 := List.count_le_length (a := true) (l := knownG g (factsG g))
      rw [known_len] at h1
      have := W.right.ten
      omega
    intro n
    exact hi_step H hp (hmore (by omega) hout) (fun i r hi hr n => Nat.le_trans (hrules i r hi hr n) (by omega)) n

/-- no node has more kids -/
structure KiK (g : List Rl) (s : List UInt8) (fs : List Fa) (M n : Nat) : Prop where
  ex : ∀ e p, GoodE g fs e → p ≤ s.length → kiS (trJ g s n (.ex e) p) ≤ M
  seq : ∀ es p, (∀ e ∈ es, GoodE g fs e) → p ≤ s.length → kiS (trJ g s n (.seq es) p) ≤ M
  alt : ∀ es p, (∀ e ∈ es, GoodE g fs e) → p ≤ s.length → kiS (trJ g s n (.alt es) p) ≤ M
  rep : ∀ e p, GoodE g fs e → p ≤ s.length → kiS (trJ g s n (.rep e) p) ≤ M
  kid : ∀ k e p, GoodE g fs e → p ≤ s.length → kiS (trJ g s n (.kid k e) p) ≤ M
theorem ki_all (H : Fits g fs) {M : Nat} (hgood : ∀ r ∈ g, GoodE g fs r.2) (hM : ∀ r ∈ g, ∀ n p q, p ≤ s.length → evJ g s n (.ex r.2) p = some (some q) → (trJ g s n (.ex r.2) p).length ≤ M) : ∀ n, KiK g s fs M n := by
  intro n
  induction n with
  | zero => exact ⟨fun _ _ _ _ => (by rw [trJ]; exact Nat.zero_le _), fun _ _ _ _ => (by rw [trJ]; exact Nat.zero_le _), fun _ _ _ _ => (by rw [trJ]; exact Nat.zero_le _), fun _ _ _ _ => (by rw [trJ]; exact Nat.zero_le _), fun _ _ _ _ _ => (by rw [trJ]; exact Nat.zero_le _)⟩
  | succ n ih =>
    refine ⟨?_, ?_, ?_, ?_, ?_⟩
    · rintro ⟨k, a, b, c, d, t, ks⟩ p hg hp
      obtain ⟨hkids, hfit, hname, hloop⟩ := hg.kids
      have hfc := fit_cases hfit
      rw [trJ.eq_def]
      dsimp only
      by_cases h1 : k = 1 ∨ k = 2 ∨ k = 3
      · rw [if_pos h1]; exact Nat.zero_le _
      rw [if_neg h1]
      by_cases h4 : k = 4
      · rw [if_pos h4]
        obtain ⟨r, hr, _⟩ := fnd_at (hname h4)
        rw [hr]
        dsimp only
        have hm := List.mem_of_getElem? hr
        split
        · rename_i q he
          rw [kiS, kiS, kiT, Nat.max_eq_left (Nat.zero_le _)]
          exact Nat.max_le.2 ⟨hM r hm n p q hp he, ih.ex r.2 p (hgood r hm) hp⟩
        · exact Nat.zero_le _
      rw [if_neg h4]
      by_cases h5 : k = 5
      · rw [if_pos h5]
        exact ih.seq ks p hkids hp
      rw [if_neg h5]
      by_cases h6 : k = 6
      · rw [if_pos h6]
        exact ih.alt ks p hkids hp
      rw [if_neg h6]
      match ks, show ks.length = 1 by omega with
      | [e], _ => exact ih.kid k e p (hkids e (by simp)) hp
    · rintro es p hgs hp
      cases es with
      | nil => rw [trJ.eq_def]; exact Nat.zero_le _
      | cons e es =>
        rw [trJ.eq_def]
        dsimp only
        have hge := hgs e (by simp)
        split
        · rename_i tq he
          have ht := told_of H hge hp he
          rw [kiS_app]
          exact Nat.max_le.2 ⟨ih.ex e p hge hp, ih.seq es tq (fun x hx => hgs x (by simp [hx])) ht.2.1⟩
        · exact Nat.zero_le _
    · rintro es p hgs hp
      cases es with
      | nil => rw [trJ.eq_def]; exact Nat.zero_le _
      | cons e es =>
        rw [trJ.eq_def]
        dsimp only
        split
        · exact ih.ex e p (hgs e (by simp)) hp
        · exact ih.alt es p (fun x hx => hgs x (by simp [hx])) hp
        · exact Nat.zero_le _
    · rintro e p hg hp
      rw [trJ.eq_def]
      dsimp only
      split
      · rename_i tq he
        have ht := told_of H hg hp he
        rw [kiS_app]
        exact Nat.max_le.2 ⟨ih.ex e p hg hp, ih.rep e tq hg ht.2.1⟩
      · exact Nat.zero_le _
    · rintro k e p hg hp
      rw [trJ.eq_def]
      dsimp only
      by_cases h7 : k = 7
      · rw [if_pos h7]
        exact ih.rep e p hg hp
      rw [if_neg h7]
      by_cases h8 : k = 8
      · rw [if_pos h8]
        split
        · rename_i tq he
          have ht := told_of H hg hp he
          rw [kiS_app]
          exact Nat.max_le.2 ⟨ih.ex e p hg hp, ih.rep e tq hg ht.2.1⟩
        · exact Nat.zero_le _
      rw [if_neg h8]
      by_cases h9 : k = 9
      · rw [if_pos h9]
        split
        · exact ih.ex e p hg hp
        · exact Nat.zero_le _
      · rw [if_neg h9]; exact Nat.zero_le _
/-- what event.Build is asked of the tree of a meaning -/
theorem tree_fits (W : WellG g) (h60 : s.length ≤ 60) {r : Rl} (hr : r ∈ g) {n q : Nat} (h : evJ g s n (.ex r.2) 0 = some (some q)) :
    trNodes (.mk 0 0 q (trJ g s n (.ex r.2) 0)) ≤ 2700000000000 ∧ hiT (.mk 0 0 q (trJ g s n (.ex r.2) 0)) ≤ 1000 ∧ kiT (.mk 0 0 q (trJ g s n (.ex r.2) 0)) ≤ 15000000 := by
  have H := fits_of W.right
  refine ⟨?_, ?_, ?_⟩
  · rw [trNodes]
    exact tree_few W h60 hr (Nat.zero_le _) h
  · rw [hiT]
    have h1 := (hi_all (s := s) W s.length 0 (by omega) (Nat.zero_le _) n).ex r.2 (W.good hr) (sound_true W.known r.2 (W.right.rt r hr))
    omega
  · rw [kiT]
    exact Nat.max_le.2 ⟨tr_few W h60 hr (Nat.zero_le _) h, (ki_all (s := s) H (fun r hr => W.good hr) (fun r hr n p q hp he => tr_few W h60 hr hp he) n).ex r.2 0 (W.good hr) (Nat.zero_le _)⟩
end
end Go.Proofs.Ytndhbdbfjkmloaa
namespace Go.Proofs.Ytndhbdbfjkmloaa
open Go.RowKit Go.Maps

section
variable {g : List Rl} {s : List UInt8} {hook : Bool} {fs : List Fa}
/-- what a try makes is what the grammar means -/
theorem pk_goesA (H : Fits g fs) {n m num p : Nat} {e : Ex} {u u' : Option Nat} {σ σ1 : PS} (hrt : Rt g e) (hp : p ≤ s.length) (he : ev g s n e p = some u) (hσ : Agree g s σ) (h : pk g s hook m (.try_ e num) p σ = some (u', σ1)) : u' = u ∧ Agree g s σ1 := by
  obtain ⟨m0, σ0, h0, ha, _⟩ := ((goes (hook := hook) H n).1 e p u hrt hp he σ num hσ).try_
  have e1 := pk_le h0 (Nat.le_max_left m0 m)
  have e2 := pk_le h (Nat.le_max_right m0 m)
  rw [e1] at e2
  injection e2 with e2
  injection e2 with e2 e3
  subst e2 e3
  exact ⟨rfl, ha⟩
end
/-- what Run finds is what the grammar means -/
theorem sem_run {g : List Rl} (W : WellG g) {s : List UInt8} {n m : Nat} {r : Rl} {o o' : Option Nat} {σ1 : PS} (hr : g[0]? = some r) (he : ev g s n r.2 0 = some o) (hpk : pk g s false m (.rule 0) 0 ps0 = some (o', σ1)) : o' = o := by
  cases m with
  | zero => cases hpk
  | succ m =>
    have H := fits_of W.right
    have hrt := W.right.rt r (List.mem_of_getElem? hr)
    simp only [pk] at hpk
    have h0 : recall ps0.seen (0, 0) = none := rfl
    rw [h0, hr] at hpk
    simp only at hpk
    cases hq : pk g s false m (.try_ r.2 (firstN g 0)) 0 ps0 with
    | none => rw [hq] at hpk; cases hpk
    | some x =>
      obtain ⟨u, σ2⟩ := x
      obtain ⟨rfl, _⟩ := pk_goesA (hook := false) H hrt (Nat.zero_le _) he (agree0 g s) hq
      rw [hq] at hpk
      simp only at hpk
      split at hpk
      · cases hpk
      · simp only [Option.some.injEq, Prod.mk.injEq] at hpk
        obtain ⟨rfl, rfl⟩ := hpk
        rfl

/-- what a grammar makes of a text -/
noncomputable def outG (g : List Rl) (s : ByteArray) : Option Nat := Classical.epsilon fun o => ∃ r, g[0]? = some r ∧ Sem g s.data.toList r.2 0 o
theorem outG_is {g : List Rl} {s : ByteArray} {r : Rl} {o : Option Nat} (hr : g[0]? = some r) (h : Sem g s.data.toList r.2 0 o) : outG g s = o := by
  obtain ⟨r', hr', h'⟩ := Classical.epsilon_spec (p := fun o => ∃ r, g[0]? = some r ∧ Sem g s.data.toList r.2 0 o) ⟨o, r, hr, h⟩
  rw [hr] at hr'
  injection hr' with hr'
  subst hr'
  exact h'.eq h
theorem run_out {g : List Rl} {s : ByteArray} (hl0 : lookG g s = 0) {m : Nat} {o : Option Nat} {σ1 : PS} (h : pk g s.data.toList false m (.rule 0) 0 ps0 = some (o, σ1)) : outG g s = o ∧ ∀ k, o = some k → k ≤ s.size := by
  obtain ⟨W, h60⟩ := look_zero hl0
  have hpos := W.right.pos
  obtain ⟨r, hr⟩ : ∃ r, g[0]? = some r := ⟨_, List.getElem?_eq_getElem hpos⟩
  obtain ⟨n, o', he⟩ := ends (s := s.data.toList) W (p := 0) (by omega) (W.good (List.mem_of_getElem? hr))
  obtain rfl := sem_run W hr he h
  refine ⟨outG_is hr ⟨n, he⟩, fun k hk => ?_⟩
  have ht := (told (s := s.data.toList) (fits_of W.right) n).1 r.2 0 o (W.right.rt r (List.mem_of_getElem? hr)) (by omega) he
  rw [hk] at ht
  have := ht.2.1
  rw [size_list] at this
  exact this
/-- what list.Accepts answers -/
noncomputable def accG (g : List Rl) (s : ByteArray) : Bool := decide (lookG g s = 0) && ((outG g s).isSome && decide ((outG g s).getD 0 = s.size))

set_option maxRecDepth 100000 in
set_option maxHeartbeats 4000000 in
theorem acc_any {g : List Rl} {A : Option Addr} {cp : Nat} {row : Nat → List Value} {w : World} (h : GrIs w w.heap.size g A cp row) (hwf : ∀ r ∈ g, WfE r.2) (s : ByteArray) :
    Calls Try.prog 23 #[.agg #[.slice A g.length cp], .string s] w fun e w' => e = .returned (.tuple #[.bool (accG g s), .int .i64 (lookG g s)]) ∧ Below w.heap.size w w' := by
  have hrn := fun W (hW : Below w.heap.size w W) => run_any (h.grow hW) hwf s
  have HR := Lib.hid hrn
  generalize hY : accG g s = Y
  generalize hX : lookG g s = X
  have HY := Lib.hid hY
  have HX := Lib.hid hX
  clear hrn h hwf hX hY
  go_enter Try.func23, Try.ntmps23
  go_wp2_with fail
  refine (HR.out _ (by repeat (first | exact Below.refl _ _ | assumption | refine Below.drew ?_ | refine below_drewN ?_ _ | refine Below.alloc ?_ (by first | omega | (simp; omega) | simp) _ | refine Below.setCell ?_ (by first | omega | (simp; omega) | simp) _))).mono ?_
  rintro e w1 ⟨hb1, hq⟩
  have hw1 : Below w.heap.size w w1 := ((Below.refl _ w).alloc (Nat.le_refl _) _).trans (hb1.mono (by simp))
  have hz1 := hw1.size
  clear hb1
  rcases hq with ⟨hne, rfl⟩ | ⟨hl0, o, σ1, V, lc, l', ⟨m, hpk⟩, ha, ht, hl, rfl, ho⟩
  · rw [HX.out] at hne ⊢
    have hxb : (X == 0) = false := by rw [beq_eq_false_iff_ne]; exact hne
    obtain rfl : Y = false := by rw [← HY.out]; unfold accG; rw [HX.out, decide_eq_false hne, Bool.false_and]
    rw [outV_eq]
    clear hne HX HY
    go_wp2
    go_ret2
    exact ⟨rfl, (by repeat (first | exact Below.refl _ _ | assumption | refine Below.drew ?_ | refine below_drewN ?_ _ | refine Below.alloc ?_ (by first | omega | (simp; omega) | simp) _ | refine Below.setCell ?_ (by first | omega | (simp; omega) | simp) _))⟩
  · clear ha ht hl ho
    obtain ⟨h1, h2⟩ := run_out hl0 hpk
    have hy : Y = (o.isSome && decide (o.getD 0 = s.size)) := by rw [← HY.out]; unfold accG; rw [hl0, h1]; rfl
    obtain rfl : X = 0 := by rw [← HX.out]; exact hl0
    rw [outV_eq]
    clear hl0 hpk h1 h2 HX HY
    generalize σ1.log.length = ll
    cases o with
    | none =>
      obtain rfl : Y = false := hy
      go_wp2
      go_ret2
      exact ⟨rfl, (by repeat (first | exact Below.refl _ _ | assumption | refine Below.drew ?_ | refine below_drewN ?_ _ | refine Below.alloc ?_ (by first | omega | (simp; omega) | simp) _ | refine Below.setCell ?_ (by first | omega | (simp; omega) | simp) _))⟩
    | some k =>
      have hy2 : Y = decide (k = s.size) := hy
      have hk : ((k : Int) == (s.size : Int)) = decide (k = s.size) := by rw [Bool.eq_iff_iff]; simp; omega
      rw [← hk] at hy2
      clear hk hy
      subst hy2
      simp only [Option.isSome_some, Option.getD_some]
      go_wp2
      go_ret2
      exact ⟨rfl, (by repeat (first | exact Below.refl _ _ | assumption | refine Below.drew ?_ | refine below_drewN ?_ _ | refine Below.alloc ?_ (by first | omega | (simp; omega) | simp) _ | refine Below.setCell ?_ (by first | omega | (simp; omega) | simp) _))⟩

end Go.Proofs.Ytndhbdbfjkmloaa
namespace Go.Proofs.Ytndhbdbfjkmloaa
open Go.RowKit Go.Maps

def xG1 : List Rl := [(nameA, litE ⟨#[120]⟩)]
theorem x1_look : lookG xG1 ⟨#[120]⟩ = 0 := by decide +kernel
theorem x1_ev : ev xG1 [120] 3 (litE ⟨#[120]⟩) 0 = some (some 1) := by decide +kernel
theorem x1_acc : accG xG1 ⟨#[120]⟩ = true := by
  unfold accG
  rw [x1_look, outG_is (r := (nameA, litE ⟨#[120]⟩)) rfl ⟨3, x1_ev⟩]
  rfl
theorem wf_litT (t : ByteArray) : WfE (litE t) := .mk _ _ _ _ _ _ _ (by unfold I64; omega) (by unfold U64; omega) (by unfold U64; omega) (by unfold U64; omega) (by unfold U64; omega) (fun e he => by cases he)
set_option maxRecDepth 100000 in
theorem topx1_any (w : World) : Calls Try.prog 24 #[] w fun e' w' => ∃ b, e' = .returned (.agg #[.slice (some ⟨b, 0, none⟩) 1 1]) ∧ GrIs w' w'.heap.size xG1 (some ⟨b, 0, none⟩) 1 (fun _ => exCells 3 0 0 0 0 ⟨#[120]⟩ none 0 0) ∧ Below w.heap.size w w' := by
  go_enter Try.func24, Try.ntmps24
  go_wp2
  refine bodyPost_ret (v := .agg #[.slice (some ⟨w.heap.size + 1, 0, none⟩) 1 1]) (by simp [results, Try.results24, go_sem]) rfl ⟨w.heap.size + 1, rfl, gr_one (cs := #[.string nameA, .int .i64 3, .int .u64 0, .int .u64 0, .int .u64 0, .int .u64 0, .string ⟨#[120]⟩, .slice none 0 0]) (by decide) (litE_is _ ⟨#[120]⟩ (by decide)) (blk_at (by simp)) rfl, (by repeat (first | exact Below.refl _ _ | assumption | refine Below.drew ?_ | refine below_drewN ?_ _ | refine Below.alloc ?_ (by first | omega | (simp; omega) | simp) _ | refine Below.setCell ?_ (by first | omega | (simp; omega) | simp) _))⟩
set_option maxRecDepth 100000 in
theorem begun1_any (w : World) : Calls Try.prog 8 #[] w fun e w' => e = .returned (.bool true) ∧ Below w.heap.size w w' := by
  have hx := fun W => topx1_any W
  have HX := Lib.hid hx
  clear hx
  go_enter Try.func8, Try.ntmps8
  go_wp2_with fail
  refine (HX.out _).mono ?_
  rintro e w1 ⟨b, rfl, hG, hb1⟩
  have hac := acc_any hG (fun r hr => by unfold xG1 at hr; rw [List.mem_singleton] at hr; subst hr; exact wf_litT _) ⟨#[120]⟩
  rw [x1_acc, x1_look] at hac
  have HA := Lib.hid hac
  clear hac hG
  go_wp2_with fail
  refine HA.out.mono ?_
  rintro e w2 ⟨rfl, hb2⟩
  have hw2 := hb1.trans (hb2.mono hb1.size)
  go_wp2
  go_ret
  exact ⟨rfl, hw2⟩
end Go.Proofs.Ytndhbdbfjkmloaa
namespace Go.Proofs.Ytndhbdbfjkmloaa
open Go.RowKit Go.Maps

theorem zero_is (w : World) : TrIs w (fun _ => False) (.mk 0 0 0 []) [.int .i64 0, .int .i64 0, .int .i64 0, .slice none ([] : List Tr).length 0] :=
  .mk 0 0 0 [] none 0 (fun _ => []) (Nat.le_refl _) (by unfold maxLen; omega) (fun h => by simp at h) (fun i t h => by simp at h) (fun i t ad h => by simp at h)

set_option maxRecDepth 100000 in
set_option maxHeartbeats 8000000 in
theorem walk_TopTree {g : List Rl} {A : Option Addr} {cp : Nat} {row : Nat → List Value} (s : ByteArray) (w : World) (hg : GrIs w w.heap.size g A cp row) (hwf : ∀ r ∈ g, WfE r.2) :
    Calls Try.prog 4 #[.agg #[.slice A g.length cp], .string s] w fun e w' => e = .returned (.bool true) ∧ Below w.heap.size w w' := by
  have hmf : ∀ (fn : Fn) (first cap : Array Value) (w : World), (Instr.makeFunc fn first cap).run Try.prog w = .ok (.func fn first cap) w := fun _ _ _ _ => rfl
  have HTO := Lib.hid (fun (W : World) (hW : Below w.heap.size w W) => tof_any ((hg.on hW).more hW.size) hwf s)
  have HBG := Lib.hid begun1_any
  have HZS := Lib.hid (fun (W : World) => same_any (.mk 0 0 0 []) (.mk 0 0 0 []) _ _ W (fun _ => False) (zero_is W) (zero_is W) (fun _ h => h.elim))
  have HALL := Lib.hid (fun (h0 : lookG g s = 0) (t : Tr) => all_any (g := g) (s := s) h0 hwf t)
  have HG := Lib.hid hg
  unfold zeroTr at *
  clear hwf hg
  go_enter Try.func4, Try.ntmps4
  go_wp2_with fail
  refine (HTO.out _ (by repeat (first | exact Below.refl _ _ | assumption | refine Below.drew ?_ | refine below_drewN ?_ _ | refine Below.alloc ?_ (by first | omega | (simp; omega) | simp) _ | refine Below.setCell ?_ (by first | omega | (simp; omega) | simp) _))).mono ?_
  rintro e w1 ⟨hb1, hq⟩
  have hw1 : Below w.heap.size w w1 := Below.trans (by repeat (first | exact Below.refl _ _ | assumption | refine Below.drew ?_ | refine below_drewN ?_ _ | refine Below.alloc ?_ (by first | omega | (simp; omega) | simp) _ | refine Below.setCell ?_ (by first | omega | (simp; omega) | simp) _)) (hb1.mono (by first | omega | (simp; omega) | simp))
  have gx : Blk w1 w.heap.size 35 #[.slice A g.length cp] := ((blk_at rfl).alloc _).below hb1 (by simp; omega)
  have sx : Blk w1 (w.heap.size + 1) 9 #[.string s] := (blk_at (by simp)).below hb1 (by simp)
  have hs1 : ∀ b, w.heap.size + 2 ≤ b → w.heap.size + 1 < b := fun b h => by omega
  clear HTO
  have hz1 := hw1.size
  rcases hq with hq | hq
  case' inl =>
    obtain ⟨x, hx0, rfl⟩ : ∃ x, (x != 0) = true ∧ e = .returned (.tuple #[.agg #[.int .i64 0, .int .i64 0, .int .i64 0, .slice none 0 0], .int .i64 x]) := by
      obtain ⟨hne, rfl⟩ := hq
      exact ⟨_, by rw [bne_iff_ne]; exact hne, rfl⟩
  case' inr =>
    rcases hq with hq | hq
    case' inl =>
      obtain ⟨x, hx0, rfl⟩ : ∃ x, (x != 0) = true ∧ e = .returned (.tuple #[.agg #[.int .i64 0, .int .i64 0, .int .i64 0, .slice none 0 0], .int .i64 x]) := by
        obtain ⟨_, _, rfl⟩ := hq
        exact ⟨11, by decide, rfl⟩
  case inl | inr.inl =>
    have tx : Blk (w1.alloc (.cells #[.int .i64 0, .int .i64 0, .int .i64 0, .slice none 0 0] 38)) w1.heap.size 38 #[.int .i64 0, .int .i64 0, .int .i64 0, .slice none 0 0] := blk_at rfl
    have hw2 : Below w.heap.size w (w1.alloc (.cells #[.int .i64 0, .int .i64 0, .int .i64 0, .slice none 0 0] 38)) := hw1.alloc hz1 _
    clear hb1 gx sx hw1
    go_upto_region 2 with fail
    generalize (w1.alloc (.cells #[.int .i64 0, .int .i64 0, .int .i64 0, .slice none 0 0] 38)) = w2 at tx hw2 ⊢
    generalize w1.heap.size = tb at tx ⊢
    go_wp2_with fail
    refine (HBG.out _).mono ?_
    rintro e w3 ⟨rfl, hb3⟩
    replace tx := tx.below hb3 tx.lt
    have hw3 := hw2.trans (hb3.mono hw2.size)
    clear hb3 hw2
    go_wp2_with fail
    refine (HBG.out _).mono ?_
    rintro e w4 ⟨rfl, hb4⟩
    replace tx := tx.below hb4 tx.lt
    have hw4 := hw3.trans (hb4.mono hw3.size)
    have t0 : w4.cell? ⟨tb, 0, none⟩ = some (.int .i64 0) := tx.cell 0
    have t1 : w4.cell? ⟨tb, 1, none⟩ = some (.int .i64 0) := tx.cell 1
    have t2 : w4.cell? ⟨tb, 2, none⟩ = some (.int .i64 0) := tx.cell 2
    have t3 : w4.cell? ⟨tb, 3, none⟩ = some (.slice none 0 0) := tx.cell 3
    clear hb4 hw3
    go_wp2_with fail
    refine (HZS.out _).mono ?_
    rintro e w5 ⟨rfl, hb5⟩
    have hw5 := hw4.trans (hb5.mono hw4.size)
    have hss : sameT (.mk 0 0 0 []) (.mk 0 0 0 []) = true := (sameT_eq _ _).2 rfl
    rw [hss]
    go_wp2
    go_ret
    exact ⟨rfl, hw5⟩
  obtain ⟨h0, r, n, q, V, c, S, hr, hev, rfl, hT, hS⟩ := hq
  obtain ⟨W0, h60⟩ := look_zero h0
  have hmem := List.mem_of_getElem? hr
  obtain ⟨hN1, hN2, hN3⟩ := tree_fits W0 (by rw [size_list]; exact h60) hmem hev
  have hpos : 0 < g.length := getElem?_lt hr
  have hto := (told_of (fits_of W0.right) (W0.good hmem) (Nat.zero_le _) hev).2.1
  rw [size_list] at hto
  have hnest : NestT g s.data.toList (.mk 0 0 q (trJ g s.data.toList n (.ex r.2) 0)) := .mk 0 0 q r n _ hr hev (nests n (.ex r.2) 0 q hev)
  have HAL := Lib.hid (HALL.out h0 (.mk 0 0 q (trJ g s.data.toList n (.ex r.2) 0)))
  generalize trJ g s.data.toList n (.ex r.2) 0 = KS at hT hN1 hN2 hN3 hnest HAL ⊢
  have HT := Lib.hid hT
  have HS := Lib.hid hS
  have HNE := Lib.hid hnest
  have HN1 := Lib.hid hN1
  have HN2 := Lib.hid hN2
  have HN3 := Lib.hid hN3
  have hqn : ¬ ((s.size : Int) < (q : Int)) := by omega
  clear hT hS hN1 hN2 hN3 hnest hr hev h0 W0 hmem HALL HZS hpos
  go_upto_region 2 with fail
  have tx : Blk (w1.alloc (.cells #[.int .i64 0, .int .i64 0, .int .i64 q, .slice V KS.length c] 38)) w1.heap.size 38 #[.int .i64 0, .int .i64 0, .int .i64 q, .slice V KS.length c] := blk_at rfl
  have hb2 : Below w1.heap.size w1 (w1.alloc (.cells #[.int .i64 0, .int .i64 0, .int .i64 q, .slice V KS.length c] 38)) := (Below.refl _ _).alloc (Nat.le_refl _) _
  generalize (w1.alloc (.cells #[.int .i64 0, .int .i64 0, .int .i64 q, .slice V KS.length c] 38)) = w2 at tx hb2 ⊢
  have hgl := gx.lt
  have hsl := sx.lt
  replace gx := gx.below hb2 gx.lt
  replace sx := sx.below hb2 sx.lt
  obtain ⟨tb, htb⟩ : ∃ tb, w1.heap.size = tb := ⟨_, rfl⟩
  rw [htb] at tx ⊢
  have hgt : w.heap.size + 1 < tb := by omega
  clear hb1
  go_wp2_with fail
  refine (HBG.out _).mono ?_
  rintro e w3 ⟨rfl, hb3⟩
  replace gx := gx.below hb3 gx.lt
  replace sx := sx.below hb3 sx.lt
  replace tx := tx.below hb3 tx.lt
  replace hb2 := hb2.trans (hb3.mono hb2.size)
  clear hb3 HBG
  have t0 : w3.cell? ⟨tb, 0, none⟩ = some (.int .i64 0) := tx.cell 0
  have t1 : w3.cell? ⟨tb, 1, none⟩ = some (.int .i64 0) := tx.cell 1
  have t2 : w3.cell? ⟨tb, 2, none⟩ = some (.int .i64 q) := tx.cell 2
  have t3 : w3.cell? ⟨tb, 3, none⟩ = some (.slice V KS.length c) := tx.cell 3
  have HT3 := Lib.hid (HT.out.keep (w' := w3) (S' := S) (fun _ h => h) fun p hp => hb2.cell (HS.out _ hp).2)
  have HO := Lib.hid (ofB_any (.mk 0 0 q KS) _ w3 S HT3.out (fun b hb => by have := (HS.out b hb).2; have := hb2.size; omega) HN1.out)
  go_wp2_with fail
  refine HO.out.mono ?_
  rintro e w4 ⟨⟨V4, c4, rfl, hown⟩, hb4⟩
  have hel : (evs (.mk 0 0 q KS)).length ≤ 5400000000000 := by rw [evs_len]; have := HN1.out; omega
  have HB := Lib.hid (build_any V4 _ c4 (evs (.mk 0 0 q KS)) w4.heap.size w4 (Reads.of_own hown) (Nat.le_refl _) hel (.mk 0 0 q KS) (bld_back _) HN2.out HN3.out)
  replace gx := gx.below hb4 gx.lt
  replace sx := sx.below hb4 sx.lt
  replace tx := tx.below hb4 tx.lt
  replace hb2 := hb2.trans (hb4.mono hb2.size)
  clear hb4 HO t0 t1 t2 t3 HT3 hown hel
  go_wp2_with fail
  refine HB.out.mono ?_
  rintro e w5 ⟨⟨tc, hq⟩, hb5⟩
  rw [bld_back] at hq
  obtain ⟨t', ht', rfl, hT5⟩ : ∃ t, some (Tr.mk 0 0 q KS) = some t ∧ e = .returned (.tuple #[.agg tc.toArray, .int .i64 0]) ∧ TrIs w5 (· < w5.heap.size) t tc := by
    rcases hq with hq | ⟨hq, _⟩
    · exact hq
    · cases hq
  injection ht' with ht'
  subst ht'
  obtain ⟨A5, cp5, rfl, -⟩ := hT5.kids
  replace gx := gx.below hb5 gx.lt
  replace sx := sx.below hb5 sx.lt
  replace tx := tx.below hb5 tx.lt
  replace hb2 := hb2.trans (hb5.mono hb2.size)
  have HT5 := Lib.hid hT5
  clear hb5 HB hT5 hq
  go_upto_region 5 with fail
  have ux : Blk (w5.alloc (.cells #[.int .i64 0, .int .i64 0, .int .i64 q, .slice A5 KS.length cp5] 38)) w5.heap.size 38 #[.int .i64 0, .int .i64 0, .int .i64 q, .slice A5 KS.length cp5] := blk_at rfl
  have hb6 : Below w5.heap.size w5 (w5.alloc (.cells #[.int .i64 0, .int .i64 0, .int .i64 q, .slice A5 KS.length cp5] 38)) := (Below.refl _ _).alloc (Nat.le_refl _) _
  generalize (w5.alloc (.cells #[.int .i64 0, .int .i64 0, .int .i64 q, .slice A5 KS.length cp5] 38)) = w6 at ux hb6 ⊢
  have HT6 := Lib.hid (HT5.out.keep (w' := w6) (S' := (· < w6.heap.size)) (fun b h => Nat.lt_of_lt_of_le h hb6.size) fun p hp => hb6.cell hp)
  replace gx := gx.below hb6 gx.lt
  replace sx := sx.below hb6 sx.lt
  replace tx := tx.below hb6 tx.lt
  replace hb2 := hb2.trans (hb6.mono hb2.size)
  have HTt := Lib.hid (HT.out.keep (w' := w6) (S' := (· < w6.heap.size)) (fun b h => by have := (HS.out b h).2; have := hb2.size; omega) fun p hp => hb2.cell (HS.out _ hp).2)
  have HSM := Lib.hid (same_any (.mk 0 0 q KS) (.mk 0 0 q KS) _ _ w6 (· < w6.heap.size) HTt.out HT6.out (fun _ h => h))
  rw [(sameT_eq _ _).2 rfl] at HSM
  generalize w5.heap.size = ub at ux ⊢
  clear hb6 HT5 HT6 HTt
  have t0 : w6.cell? ⟨tb, 0, none⟩ = some (.int .i64 0) := tx.cell 0
  have t1 : w6.cell? ⟨tb, 1, none⟩ = some (.int .i64 0) := tx.cell 1
  have t2 : w6.cell? ⟨tb, 2, none⟩ = some (.int .i64 q) := tx.cell 2
  have t3 : w6.cell? ⟨tb, 3, none⟩ = some (.slice V KS.length c) := tx.cell 3
  have u0 : w6.cell? ⟨ub, 0, none⟩ = some (.int .i64 0) := ux.cell 0
  have u1 : w6.cell? ⟨ub, 1, none⟩ = some (.int .i64 0) := ux.cell 1
  have u2 : w6.cell? ⟨ub, 2, none⟩ = some (.int .i64 q) := ux.cell 2
  have u3 : w6.cell? ⟨ub, 3, none⟩ = some (.slice A5 KS.length cp5) := ux.cell 3
  go_wp2_with fail
  refine HSM.out.mono ?_
  rintro e w7 ⟨rfl, hb7⟩
  replace gx := gx.below hb7 gx.lt
  replace sx := sx.below hb7 sx.lt
  replace tx := tx.below hb7 tx.lt
  replace hb2 := hb2.trans (hb7.mono hb2.size)
  clear hb7 HSM t0 t1 t2 t3 u0 u1 u2 u3 ux
  have t2 : w7.cell? ⟨tb, 2, none⟩ = some (.int .i64 q) := tx.cell 2
  have s0 : w7.cell? ⟨w.heap.size + 1, 0, none⟩ = some (.string s) := sx.cell 0
  go_upto_region 8 with fail
  have vx : Blk (w7.alloc (.cells #[.nilFunc] 46)) w7.heap.size 46 #[.nilFunc] := blk_at rfl
  have hb8 : Below w7.heap.size w7 (w7.alloc (.cells #[.nilFunc] 46)) := (Below.refl _ _).alloc (Nat.le_refl _) _
  generalize (w7.alloc (.cells #[.nilFunc] 46)) = w8 at vx hb8 ⊢
  have hz7 := tx.lt
  replace gx := gx.below hb8 gx.lt
  replace sx := sx.below hb8 sx.lt
  replace tx := tx.below hb8 tx.lt
  replace hb2 := hb2.trans (hb8.mono hb2.size)
  obtain ⟨vb, hvb⟩ : ∃ vb, w7.heap.size = vb := ⟨_, rfl⟩
  rw [hvb] at vx hz7 ⊢
  clear hb8 t2 s0 hvb
  have n0 := vx.cell 0
  have f0 := vx.frozen 0
  have hv := vx.set_ 0 (.func (.func 12) #[] #[.pointer (some ⟨w.heap.size, 0, none⟩), .pointer (some ⟨w.heap.size + 1, 0, none⟩), .pointer (some ⟨vb, 0, none⟩)])
  have hg9 := gx.far (p := ⟨vb, 0, none⟩) (by simp; omega) (.func (.func 12) #[] #[.pointer (some ⟨w.heap.size, 0, none⟩), .pointer (some ⟨w.heap.size + 1, 0, none⟩), .pointer (some ⟨vb, 0, none⟩)])
  have hs9 := sx.far (p := ⟨vb, 0, none⟩) (by simp; omega) (.func (.func 12) #[] #[.pointer (some ⟨w.heap.size, 0, none⟩), .pointer (some ⟨w.heap.size + 1, 0, none⟩), .pointer (some ⟨vb, 0, none⟩)])
  have ht9 := tx.far (p := ⟨vb, 0, none⟩) (by simp; omega) (.func (.func 12) #[] #[.pointer (some ⟨w.heap.size, 0, none⟩), .pointer (some ⟨w.heap.size + 1, 0, none⟩), .pointer (some ⟨vb, 0, none⟩)])
  have hw9 := hb2.setCell (p := ⟨vb, 0, none⟩) (by simp; omega) (.func (.func 12) #[] #[.pointer (some ⟨w.heap.size, 0, none⟩), .pointer (some ⟨w.heap.size + 1, 0, none⟩), .pointer (some ⟨vb, 0, none⟩)])
  have HG9 := Lib.hid hg9
  have HS9 := Lib.hid hs9
  have HT9 := Lib.hid ht9
  have HW9 := Lib.hid hw9
  have HV9 := Lib.hid hv
  clear hv hg9 hs9 ht9 hw9 gx sx tx vx hb2
  go_upto_region 9 with fail
  generalize (w8.setCell ⟨vb, 0, none⟩ (.func (.func 12) #[] #[.pointer (some ⟨w.heap.size, 0, none⟩), .pointer (some ⟨w.heap.size + 1, 0, none⟩), .pointer (some ⟨vb, 0, none⟩)])) = w9 at HG9 HS9 HT9 HW9 HV9 ⊢
  have tx := HT9.out
  have t0 : w9.cell? ⟨tb, 0, none⟩ = some (.int .i64 0) := tx.cell 0
  have t1 : w9.cell? ⟨tb, 1, none⟩ = some (.int .i64 0) := tx.cell 1
  have t2 : w9.cell? ⟨tb, 2, none⟩ = some (.int .i64 q) := tx.cell 2
  have t3 : w9.cell? ⟨tb, 3, none⟩ = some (.slice V KS.length c) := tx.cell 3
  have v0 : w9.cell? ⟨vb, 0, none⟩ = some (.func (.func 12) #[] #[.pointer (some ⟨w.heap.size, 0, none⟩), .pointer (some ⟨w.heap.size + 1, 0, none⟩), .pointer (some ⟨vb, 0, none⟩)]) := HV9.out.cell 0
  have hw9 : Below w.heap.size w w9 := hw1.trans (HW9.out.mono hz1)
  have HC := Lib.hid (HAL.out _ w9 S A cp row w.heap.size (w.heap.size + 1) vb ((HG.out.on hw9).more hw9.size) ⟨HG9.out, HS9.out, HV9.out⟩ (HT.out.keep (S' := S) (fun _ h => h) fun p hp => HW9.out.cell (HS.out _ hp).2) (fun b hb => by have := (HS.out b hb).2; have := HW9.out.size; omega) HNE.out (by show (q : Int) ≤ s.size; omega))
  clear tx n0 f0
  go_wp2_with fail
  refine HC.out.mono ?_
  rintro e w10 ⟨rfl, hb10⟩
  have hw10 := hw9.trans (hb10.mono hw9.size)
  go_wp2
  go_ret
  exact ⟨rfl, hw10⟩
end Go.Proofs.Ytndhbdbfjkmloaa
namespace Go.Proofs.Ytndhbdbfjkmloaa.topTree
open Go.ChangeShapes Go.WideShapes Go.ChangeAt Go.RowKit
open Go.ChangeMaps (open_string shut_string)
set_option linter.unusedVariables false

theorem own : ownKnob Try.prog.godebug = none := by kernel_rfl
theorem laidOut : laidOutB Try.prog = true := by kernel_rfl

set_option maxRecDepth 100000 in
theorem lifted (os : Os) (started : os.Started) (H : Type) (enc : TypeId × Value → H) :
    ReturnsInHanded {} Try.checked os 4 .any (Rows.topTreeSpec.pre6 enc Try.prog Try.f4 Rows.topTreeRow.domain false) (Rows.topTreeSpec.post enc Try.prog Try.f4 false true false false) := by
  refine returnsInHanded_of_change_sized (C := Try.checked) own started (by kernel_rfl) Try.func4
    (ChangeSpec.witness6 (enc := enc) (C := Try.checked) false ⟨#[], #[.agg #[.slice none 0 0], .string ByteArray.empty], []⟩ 8 (by kernel_rfl) (by kernel_rfl) (by kernel_rfl) (by kernel_rfl)) ?_
  intro W base args ds gs before hval0 hW hcnd hsz0 _
  have hval : ∀ (j : Nat) t v, Try.f4.params[j]? = some t → args[j]? = some v → Value.okWide Try.prog W .any base t v := hval0
  have hsz : (DataW.weightsEach Try.prog (Try.f4.params.toList ++ Rows.topTreeSpec.plain.varTypes Try.prog) (ds ++ gs)).all (· ≤ reachBytes) = true := hsz0
  have hW' := hW
  obtain ⟨p, q, hA0, hV, rfl, hfz, hnd⟩ := hW
  have hA : DataW.TrodAll enc Try.prog W 0 (fun _ => true) true Try.f4.params.toList args.toList ds p := hA0
  rw [Try.params4] at hA hval hsz
  obtain ⟨v0, vs0, d0, ds0, p0, q0, hargs, rfl, rfl, h0, r0⟩ := trodAll_cons hA
  obtain ⟨v1, vs1, d1, ds1, p1, q1, rfl, rfl, rfl, h1, r1⟩ := trodAll_cons r0
  obtain ⟨rfl, rfl, rfl⟩ := trodAll_nil r1
  obtain rfl : args = #[v0, v1] := by cases args; simp_all
  obtain ⟨rfl, rfl⟩ := trodVars_none hV
  have k0 := h0
  have lt0 : ∀ x ∈ p0, x.block < W.heap.size := by obtain ⟨m, hm⟩ := k0; exact DataW.trod_lt m _ _ _ hm
  have k1 := h1
  have lt1 : ∀ x ∈ p1, x.block < W.heap.size := by obtain ⟨m, hm⟩ := k1; exact DataW.trod_lt m _ _ _ hm
  obtain ⟨g0, A0, cp0, row0, rfl, w0, u0⟩ := open_gram (by obtain ⟨cs, e1, e2⟩ := okWide_struct Try.underlying35 (hval 0 35 v0 rfl rfl); exact ⟨cs, e1, e2⟩) h0
  obtain ⟨s1, rfl, rfl, rfl, n1⟩ := open_string Try.underlying9 (hval 1 9 v1 rfl rfl) h1
  have w1 : s1.size ≤ 140737488351232 := by have := sized_string hsz (j := 1) (t := 9) rfl rfl; simpa [reachBytes] using this
  clear hA0 hval0
  refine (walk_TopTree s1 W w0 u0).mono fun e W' ⟨he, bel⟩ => ?_
  subst he
  exact ⟨_, rfl, _, _, _, [], _, [], hW', trodAll_mk1 (shut_bool Try.underlying4 _), (trodAll_cons_mk (Below.trod laidOut (by kernel_rfl) (of_decide_eq_true (by kernel_rfl)) k0 bel lt0) (trodAll_cons_mk (Below.trod laidOut (by kernel_rfl) (of_decide_eq_true (by kernel_rfl)) k1 bel lt1) trodAll_mk0)), rfl, bel.frame _, fun h => by cases h⟩

theorem over : Rows.topTreeRow.holds Try.pinned (OpenSpec.ofChange Rows.topTreeSpec) :=
  OpenClaim.holds_of_wide 4 Try.f4 rfl rfl rfl rfl rfl rfl rfl ⟨rfl, rfl, rfl, rfl, rfl⟩ rfl rfl rfl rfl rfl (by kernel_rfl) Try.func4 (by kernel_rfl)
    (of_decide_eq_true (by kernel_rfl)) (by unfold Func.isWrapper; first | (rw [if_pos (by decide +kernel)]; kernel_rfl) | (rw [if_neg (by decide +kernel)]; exact ⟨rfl, rfl⟩))
    (fun os started H enc _ => lifted os started H enc)

theorem proved : Rows.TopTreeSaid := over
#print axioms proved
end Go.Proofs.Ytndhbdbfjkmloaa.topTree
