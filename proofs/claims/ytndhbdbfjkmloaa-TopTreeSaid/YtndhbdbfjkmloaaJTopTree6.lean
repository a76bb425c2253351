/- Ford: of a grammar that is well all comes to an end. Plain. What the functions of package set that go word by word answer. What set.Join and set.Meet answer. What set.Not and set.Range answer. A parser that remembers: plain. Its state, and what each of its calls makes of it, by fuel. -/
import Derived.Test.YtndhbdbfjkmloaaJTopTree5
import Derived.Test.YtndhbdbfjkmloaaJTopTree0
import Derived.Test.YtndhbdbfjkmloaaProg
import Derived.Deep.RegionHeld3
import Derived.Deep.RegionWith
namespace Go.Proofs.Ytndhbdbfjkmloaa

def nxB (g : List Rl) (fs : List Fa) (kn : List Bool) (i : Nat) : Bool := match g[i]? with
  | some r => soundE g fs kn r.2
  | none => false
def knownG (g : List Rl) (fs : List Fa) : List Bool := growG (nxB g fs) (wtL boOrd (List.replicate g.length false) + 1) (List.replicate g.length false)
def badLoop (g : List Rl) (fs : List Fa) : List Rl → Nat → Option Nat
  | [], _ => none
  | r :: rs, i => if loopsE g fs r.2 = true then some i else badLoop g fs rs (i + 1)
def badLeft : List Bool → Nat → Option Nat
  | [], _ => none
  | b :: bs, i => if b = false then some i else badLeft bs (i + 1)
/-- what well.Well says -/
def wellG (g : List Rl) : Int × Int :=
  if checkG g ≠ 0 then (0, checkG g) else match badLoop g (factsG g) g 0 with
    | some i => (i, 9)
    | none => match badLeft (knownG g (factsG g)) 0 with
      | some i => (i, 8)
      | none => (0, 0)

/-! a right grammar -/
theorem looks_fit : ∀ (ks : List Ex) (n deep : Nat), (looks ks n deep).1 = 0 → ∀ e ∈ ks, ∃ n' d', (lookN e n' d').1 = 0
  | [], _, _, _ => fun e he => by cases he
  | e :: es, n, deep, h => fun e' he' => by
    unfold looks at h
    split at h
    · rename_i h0
      rcases List.mem_cons.1 he' with rfl | he'
      · exact ⟨_, _, h0⟩
      · exact looks_fit es _ _ h e' he'
    · rename_i h0
      exact absurd h h0
theorem look_fit {k a b c d : Int} {t : ByteArray} {ks : List Ex} {n deep : Nat} (h : (lookN (.mk k a b c d t ks) n deep).1 = 0) : fitB k a b c d t.data.toList ks.length = true ∧ ∀ e ∈ ks, ∃ n' d', (lookN e n' d').1 = 0 := by
  unfold lookN at h
  split at h
  · simp at h
  split at h
  · simp at h
  split at h
  · simp at h
  · rename_i h3
    exact ⟨by simpa using h3, looks_fit _ _ _ h⟩
theorem refStep_keeps {acc : List ByteArray} {p : Int × ByteArray} {s : ByteArray} (h : s ∈ acc) : s ∈ refStep acc p := by
  unfold refStep
  split
  · simp [h]
  · exact h
theorem mem_refsL : ∀ (l : List (Int × ByteArray)) (acc : List ByteArray) (s : ByteArray), s ∈ l.foldl refStep acc ↔ s ∈ acc ∨ ((4 : Int), s) ∈ l
  | [], acc, s => by simp
  | p :: l, acc, s => by
    rw [List.foldl_cons, mem_refsL l _ s]
    constructor
    · rintro (h | h)
      · unfold refStep at h
        split at h
        · rename_i hp
          rcases List.mem_append.1 h with h | h
          · exact .inl h
          · simp at h
            refine .inr ?_
            rw [h, ← hp.1]
            simp
        · exact .inl h
      · exact .inr (List.mem_cons_of_mem _ h)
    · rintro (h | h)
      · exact .inl (refStep_keeps h)
      · rcases List.mem_cons.1 h with h | h
        · refine .inl ?_
          rw [← h]
          unfold refStep
          by_cases hs : s ∈ acc
          · rw [if_neg (by simp [hs])]; exact hs
          · rw [if_pos ⟨rfl, hs⟩]; simp
        · exact .inr h
theorem mem_refsE (e : Ex) (s : ByteArray) : s ∈ refsE e ↔ ((4 : Int), s) ∈ preE e := by
  unfold refsE refsL
  rw [mem_refsL]
  simp
theorem mem_preEs {p : Int × ByteArray} : ∀ {ks : List Ex} {e : Ex}, e ∈ ks → p ∈ preE e → p ∈ preEs ks
  | [], e, he, _ => by cases he
  | x :: xs, e, he, hp => by
    rw [preEs]
    rcases List.mem_cons.1 he with rfl | he
    · exact List.mem_append_left _ hp
    · exact List.mem_append_right _ (mem_preEs he hp)
theorem rt_of {g : List Rl} (e : Ex) : (∃ n d, (lookN e n d).1 = 0) → (∀ s, ((4 : Int), s) ∈ preE e → 0 ≤ fnd g s.data.toList) → Rt g e := by
  refine Ex.ind (P := fun e => (∃ n d, (lookN e n d).1 = 0) → (∀ s, ((4 : Int), s) ∈ preE e → 0 ≤ fnd g s.data.toList) → Rt g e) ?_ e
  rintro k a b c d t ks ih ⟨n, dd, h⟩ hr
  obtain ⟨h1, h2⟩ := look_fit h
  refine .mk k a b c d t ks h1 (fun hk => hr t ?_) fun e he => ih e he (h2 e he) fun s hs => hr s ?_
  · rw [preE, hk]; simp
  · rw [preE]
    exact List.mem_cons_of_mem _ (mem_preEs he hs)
theorem known1_all {g : List Rl} : ∀ {l : List ByteArray}, known1 g l = true → ∀ s ∈ l, 0 ≤ fnd g s.data.toList
  | [], _ => fun s hs => by cases hs
  | x :: xs, h => fun s hs => by
    unfold known1 at h
    split at h
    · cases h
    · rcases List.mem_cons.1 hs with rfl | hs
      · omega
      · exact known1_all h s hs
theorem chk2_all {g : List Rl} : ∀ {l : List Rl}, chk2 g l = 0 → ∀ r ∈ l, ∀ s ∈ refsC r.2, 0 ≤ fnd g s.data.toList
  | [], _ => fun r hr => by cases hr
  | x :: xs, h => fun r hr => by
    unfold chk2 at h
    split at h
    · simp at h
    · rename_i hk
      rcases List.mem_cons.1 hr with rfl | hr
      · exact known1_all (by simpa using hk)
      · exact chk2_all h r hr
theorem chk1_all {g : List Rl} : ∀ {l : List Rl} {i all : Nat}, (chk1 g l i all).1 = 0 → (∀ r ∈ l, nameB r.1.data.toList = true ∧ checkE r.2 = 0) ∧ (∀ (j : Nat) (r : Rl), l[j]? = some r → fnd g r.1.data.toList = ((i + j : Nat) : Int)) ∧ (chk1 g l i all).2 = all + (l.map fun r => nodes r.2).sum
  | [], i, all, _ => ⟨fun r hr => (by cases hr), fun j r h => (by simp at h), by simp [chk1]⟩
  | x :: xs, i, all, h => by
    unfold chk1 at h ⊢
    split at h
    · simp at h
    rename_i h1
    split at h
    · simp at h
    rename_i h2
    split at h
    · rename_i h3; exact absurd h h3
    rename_i h3
    obtain ⟨a1, a2, a3⟩ := chk1_all h
    rw [if_neg h1, if_neg h2, if_neg h3]
    refine ⟨fun r hr => ?_, fun j r hj => ?_, by rw [a3]; simp; omega⟩
    · rcases List.mem_cons.1 hr with rfl | hr
      · exact ⟨by simpa using h1, by simpa using h3⟩
      · exact a1 r hr
    · cases j with
      | zero =>
        simp at hj
        subst hj
        simpa using h2
      | succ j =>
        rw [a2 j r (by simpa using hj)]
        omega
/-- what a right grammar is -/
structure RightG (g : List Rl) : Prop where
  pos : 0 < g.length
  ten : g.length ≤ 10
  nodes : (g.map fun r => nodes r.2).sum ≤ 120
  named : ∀ r ∈ g, nameB r.1.data.toList = true
  once : ∀ (j : Nat) (r : Rl), g[j]? = some r → fnd g r.1.data.toList = (j : Int)
  body : ∀ r ∈ g, checkE r.2 = 0
  rt : ∀ r ∈ g, Rt g r.2
theorem right_of {g : List Rl} (h : checkG g = 0) : RightG g := by
  unfold checkG at h
  split at h
  · simp at h
  rename_i h0
  split at h
  · simp at h
  rename_i h10
  split at h
  · rename_i h1; exact absurd h h1
  rename_i h1
  split at h
  · simp at h
  rename_i h120
  obtain ⟨a1, a2, a3⟩ := chk1_all (by simpa using h1)
  rw [a3] at h120
  refine ⟨by omega, by omega, by omega, fun r hr => (a1 r hr).1, fun j r hj => by rw [a2 j r hj, Nat.zero_add], fun r hr => (a1 r hr).2, fun r hr => ?_⟩
  have hc := (a1 r hr).2
  refine rt_of r.2 ⟨0, 1, hc⟩ fun s hs => chk2_all h r hr s ?_
  unfold refsC
  rw [if_pos hc]
  exact (mem_refsE _ _).2 hs
theorem fits_of {g : List Rl} (h : RightG g) : Fits g (factsG g) :=
  ⟨facts_len g, fun i r hr => by rw [facts_fix g i (getElem?_lt hr)]; unfold nxF; rw [hr], h.rt⟩

/-! it comes to an end -/
def EndsAt (g : List Rl) (s : List UInt8) (e : Ex) (p : Nat) : Prop := ∃ n o, ev g s n e p = some o
def EndsR (g : List Rl) (s : List UInt8) (e : Ex) (p : Nat) : Prop := ∃ n o, evR g s n e p = some o
structure GoodE (g : List Rl) (fs : List Fa) (e : Ex) : Prop where
  rt : Rt g e
  noloop : loopsE g fs e = false
theorem loopsEs_mem {g : List Rl} {fs : List Fa} : ∀ {ks : List Ex}, loopsEs g fs ks = false → ∀ e ∈ ks, loopsE g fs e = false
  | [], _ => fun e he => by cases he
  | x :: xs, h => fun e he => by
    rw [loopsEs, Bool.or_eq_false_iff] at h
    rcases List.mem_cons.1 he with rfl | he
    · exact h.1
    · exact loopsEs_mem h.2 e he
theorem GoodE.kids {g : List Rl} {fs : List Fa} {k a b c d : Int} {t : ByteArray} {ks : List Ex} (h : GoodE g fs (.mk k a b c d t ks)) : (∀ e ∈ ks, GoodE g fs e) ∧ fitB k a b c d t.data.toList ks.length = true ∧ (k = 4 → 0 ≤ fnd g t.data.toList) ∧
    (k = 7 ∨ k = 8 → ∀ e, ks = [e] → (ofE g fs e).e = false) := by
  have hl := h.noloop
  rw [loopsE, Bool.or_eq_false_iff] at hl
  cases h.rt with
  | mk _ _ _ _ _ _ _ hfit hname hkids =>
  refine ⟨fun e he => ⟨hkids e he, loopsEs_mem hl.2 e he⟩, hfit, hname, fun hk e he => ?_⟩
  subst he
  have := hl.1
  rw [ofEs, ofEs, kid0] at this
  rcases hk with rfl | rfl <;> simpa using this

section
variable {g : List Rl} {s : List UInt8} {fs : List Fa}
theorem ends_R (H : Fits g fs) {e : Ex} {p : Nat} (hp : p ≤ s.length) (hg : GoodE g fs e) (hne : (ofE g fs e).e = false) (h : EndsAt g s e p) (hout : ∀ q, p < q → q ≤ s.length → EndsR g s e q) : EndsR g s e p := by
  obtain ⟨n, o, he⟩ := h
  cases o with
  | none => exact ⟨n + 1, some p, by rw [evR_s, he]⟩
  | some to =>
    have ht := (told H n).1 e p _ hg.rt hp he
    have hgt : p < to := by
      rcases Nat.lt_or_ge p to with h | h
      · exact h
      · have := ht.2.2.1 (by have := ht.1; omega)
        rw [hne] at this
        cases this
    obtain ⟨m, o', hr⟩ := hout to hgt ht.2.1
    exact ⟨max n m + 1, o', by rw [evR_s, ev_le he (Nat.le_max_left _ _)]; exact evR_le hr (Nat.le_max_right _ _)⟩
theorem ends_S_gt (H : Fits g fs) {p : Nat} (hout : ∀ q, p < q → q ≤ s.length → ∀ e, GoodE g fs e → EndsAt g s e q) : ∀ (es : List Ex), (∀ e ∈ es, GoodE g fs e) → ∀ q, p < q → q ≤ s.length → ∃ n o, evS g s n es q = some o
  | [], _, q, _, _ => ⟨1, some q, by rw [evS_nil]⟩
  | e :: es, hes, q, h1, h2 => by
    obtain ⟨n, o, he⟩ := hout q h1 h2 e (hes e (by simp))
    cases o with
    | none => exact ⟨n + 1, none, by rw [evS_cons, he]⟩
    | some to =>
      have ht := (told H n).1 e q _ (hes e (by simp)).rt h2 he
      obtain ⟨m, o', hm⟩ := ends_S_gt H hout es (fun e he => hes e (by simp [he])) to (by have := ht.1; omega) ht.2.1
      exact ⟨max n m + 1, o', by rw [evS_cons, ev_le he (Nat.le_max_left _ _)]; exact evS_le hm (Nat.le_max_right _ _)⟩

theorem ends_step (H : Fits g fs) {p : Nat} (hp : p ≤ s.length) (hout : ∀ q, p < q → q ≤ s.length → ∀ e, GoodE g fs e → EndsAt g s e q ∧ ((ofE g fs e).e = false → EndsR g s e q))
    {kn : List Bool} (hkn : ∀ (i : Nat) (r : Rl), kn[i]? = some true → g[i]? = some r → EndsAt g s r.2 p) (e : Ex) : GoodE g fs e → soundE g fs kn e = true → EndsAt g s e p := by
  refine Ex.ind (P := fun e => GoodE g fs e → soundE g fs kn e = true → EndsAt g s e p) ?_ e
  intro k a b c d t ks ih hg hs
  obtain ⟨hkids, hfit, hname, hloop⟩ := hg.kids
  have hfc := fit_cases hfit
  rw [soundE] at hs
  by_cases k1 : k = 1
  · exact ⟨1, some p, by rw [ev_s, if_pos k1]⟩
  by_cases k2 : k = 2
  · exact ⟨1, _, by rw [ev_s, if_neg k1, if_pos k2]⟩
  by_cases k3 : k = 3
  · exact ⟨1, _, by rw [ev_s, if_neg k1, if_neg k2, if_pos k3]⟩
  by_cases k4 : k = 4
  · rw [if_pos k4] at hs
    obtain ⟨r, hr, _⟩ := fnd_at (hname k4)
    have hkt : kn[(fnd g t.data.toList).toNat]? = some true := by
      rw [List.getD_eq_getElem?_getD] at hs
      cases hh : kn[(fnd g t.data.toList).toNat]? with
      | none => rw [hh] at hs; cases hs
      | some b => rw [hh] at hs; simp at hs; rw [hs]
    obtain ⟨n, o, h⟩ := hkn _ r hkt hr
    exact ⟨n + 1, o, by rw [ev_s, if_neg k1, if_neg k2, if_neg k3, if_pos k4, hr]; exact h⟩
  rw [if_neg k4] at hs
  by_cases k5 : k = 5
  · rw [if_pos k5] at hs
    have : ∀ es : List Ex, (∀ e ∈ es, e ∈ ks) → soundS g fs kn es = true → ∃ n o, evS g s n es p = some o := by
      intro es
      induction es with
      | nil => intro _ _; exact ⟨1, some p, by rw [evS_nil]⟩
      | cons e es ihe =>
        intro hm hse
        rw [soundS] at hse
        split at hse
        · cases hse
        rename_i hse1
        obtain ⟨n, o, he⟩ := ih e (hm e (by simp)) (hkids e (hm e (by simp))) (by simpa using hse1)
        cases o with
        | none => exact ⟨n + 1, none, by rw [evS_cons, he]⟩
        | some to =>
          have ht := (told H n).1 e p _ (hkids e (hm e (by simp))).rt hp he
          have hrest : ∃ m o', evS g s m es to = some o' := by
            by_cases hpt : to = p
            · subst hpt
              have he' := ht.2.2.1 rfl
              rw [he', if_neg (by decide)] at hse
              exact ihe (fun e he => hm e (by simp [he])) hse
            · exact ends_S_gt H (fun q h1 h2 e he => (hout q h1 h2 e he).1) es (fun e he => hkids e (hm e (by simp [he]))) to (by have := ht.1; omega) ht.2.1
          obtain ⟨m, o', hm'⟩ := hrest
          exact ⟨max n m + 1, o', by rw [evS_cons, ev_le he (Nat.le_max_left _ _)]; exact evS_le hm' (Nat.le_max_right _ _)⟩
    obtain ⟨n, o, h⟩ := this ks (fun e he => he) hs
    exact ⟨n + 1, o, by rw [ev_s, if_neg k1, if_neg k2, if_neg k3, if_neg k4, if_pos k5]; exact h⟩
  rw [if_neg k5] at hs
  have hall : ∀ es : List Ex, soundA g fs kn es = true → ∀ e ∈ es, soundE g fs kn e = true := by
    intro es
    induction es with
    | nil => intro _ e he; cases he
    | cons e es ihe =>
      intro hse e' he'
      rw [soundA] at hse
      split at hse
      · cases hse
      rename_i hse1
      rcases List.mem_cons.1 he' with rfl | he'
      · simpa using hse1
      · exact ihe hse e' he'
  have hends : ∀ e ∈ ks, EndsAt g s e p := fun e he => ih e he (hkids e he) (hall ks hs e he)
  by_cases k6 : k = 6
  · have : ∀ es : List Ex, (∀ e ∈ es, e ∈ ks) → ∃ n o, evA g s n es p = some o := by
      intro es
      induction es with
      | nil => intro _; exact ⟨1, none, by rw [evA_nil]⟩
      | cons e es ihe =>
        intro hm
        obtain ⟨n, o, he⟩ := hends e (hm e (by simp))
        cases o with
        | some to => exact ⟨n + 1, some to, by rw [evA_cons, he]⟩
        | none =>
          obtain ⟨m, o', hm'⟩ := ihe (fun e he => hm e (by simp [he]))
          exact ⟨max n m + 1, o', by rw [evA_cons, ev_le he (Nat.le_max_left _ _)]; exact evA_le hm' (Nat.le_max_right _ _)⟩
    obtain ⟨n, o, h⟩ := this ks (fun e he => he)
    exact ⟨n + 1, o, by rw [ev_s, if_neg k1, if_neg k2, if_neg k3, if_neg k4, if_neg k5, if_pos k6]; exact h⟩
  have h7 : 7 ≤ k ∧ k ≤ 11 ∧ ks.length = 1 := by omega
  match ks, h7.2.2, hends, hkids, hloop with
  | [e0], _, hends, hkids, hloop =>
    obtain ⟨n, o, he⟩ := hends e0 (by simp)
    have hg0 := hkids e0 (by simp)
    have key : ∃ m o', evK g s m k e0 p = some o' := by
      by_cases k7 : k = 7
      · have hne := hloop (.inl k7) e0 rfl
        obtain ⟨m, o', hr⟩ := ends_R H hp hg0 hne ⟨n, o, he⟩ (fun q h1 h2 => (hout q h1 h2 e0 hg0).2 hne)
        exact ⟨m + 1, o', by rw [evK_s, if_pos k7]; exact hr⟩
      cases o with
      | none => exact ⟨n + 1, _, by rw [evK_s, if_neg k7, he]⟩
      | some to =>
        by_cases k8 : k = 8
        · have hne := hloop (.inr k8) e0 rfl
          have ht := (told H n).1 e0 p _ hg0.rt hp he
          have hgt : p < to := by
            rcases Nat.lt_or_ge p to with h | h
            · exact h
            · have := ht.2.2.1 (by have := ht.1; omega)
              rw [hne] at this
              cases this
          obtain ⟨m, o', hr⟩ := (hout to hgt ht.2.1 e0 hg0).2 hne
          exact ⟨max n m + 1, o', by rw [evK_s, if_neg k7, ev_le he (Nat.le_max_left _ _)]; simp only; rw [if_pos k8]; exact evR_le hr (Nat.le_max_right _ _)⟩
        · refine ⟨n + 1, if k = 9 then some to else if k = 10 then some p else none, ?_⟩
          rw [evK_s, if_neg k7, he]
          simp only
          rw [if_neg k8]
          split
          · rfl
          · split <;> rfl
    obtain ⟨m, o', hm⟩ := key
    exact ⟨m + 1, o', by rw [ev_s, if_neg k1, if_neg k2, if_neg k3, if_neg k4, if_neg k5, if_neg k6]; exact hm⟩

theorem sound_true {kn : List Bool} (hkn : ∀ i, i < g.length → kn[i]? = some true) (e : Ex) : Rt g e → soundE g fs kn e = true := by
  refine Ex.ind (P := fun e => Rt g e → soundE g fs kn e = true) ?_ e
  intro k a b c d t ks ih hR
  cases hR with
  | mk _ _ _ _ _ _ _ hfit hname hkids =>
  rw [soundE]
  by_cases k4 : k = 4
  · rw [if_pos k4]
    obtain ⟨r, hr, _⟩ := fnd_at (hname k4)
    rw [List.getD_eq_getElem?_getD, hkn _ (getElem?_lt hr)]
    rfl
  rw [if_neg k4]
  by_cases k5 : k = 5
  · rw [if_pos k5]
    have : ∀ es : List Ex, (∀ e ∈ es, e ∈ ks) → soundS g fs kn es = true := by
      intro es
      induction es with
      | nil => intro _; rw [soundS]
      | cons e es ihe =>
        intro hm
        rw [soundS, ih e (hm e (by simp)) (hkids e (hm e (by simp))), if_neg (by decide)]
        split
        · rfl
        · exact ihe fun e he => hm e (by simp [he])
    exact this ks fun e he => he
  rw [if_neg k5]
  have : ∀ es : List Ex, (∀ e ∈ es, e ∈ ks) → soundA g fs kn es = true := by
    intro es
    induction es with
    | nil => intro _; rw [soundA]
    | cons e es ihe =>
      intro hm
      rw [soundA, ih e (hm e (by simp)) (hkids e (hm e (by simp))), if_neg (by decide)]
      exact ihe fun e he => hm e (by simp [he])
  exact this ks fun e he => he

theorem badLoop_none : ∀ {l : List Rl} {i : Nat}, badLoop g fs l i = none → ∀ r ∈ l, loopsE g fs r.2 = false
  | [], _, _ => fun r hr => by cases hr
  | x :: xs, i, h => fun r hr => by
    unfold badLoop at h
    split at h
    · cases h
    · rename_i hx
      rcases List.mem_cons.1 hr with rfl | hr
      · simpa using hx
      · exact badLoop_none h r hr
theorem badLeft_none : ∀ {l : List Bool} {i : Nat}, badLeft l i = none → ∀ (j : Nat), j < l.length → l[j]? = some true
  | [], _, _ => fun j hj => by simp at hj
  | x :: xs, i, h => fun j hj => by
    unfold badLeft at h
    split at h
    · cases h
    · rename_i hx
      cases j with
      | zero => simp; simpa using hx
      | succ j => simp; have := badLeft_none h j (by simpa using hj); exact this
/-- a grammar that is well -/
structure WellG (g : List Rl) : Prop where
  right : RightG g
  noloop : ∀ r ∈ g, loopsE g (factsG g) r.2 = false
  known : ∀ i, i < g.length → (knownG g (factsG g))[i]? = some true
theorem known_len : (knownG g fs).length = g.length := by
  unfold knownG
  rw [(grow_keeps (nx := nxB g fs) (P := fun _ => True) (fun _ _ _ _ _ => trivial) _ _ trivial).2]
  simp
theorem well_of (h : (wellG g).2 = 0) : WellG g := by
  unfold wellG at h
  split at h
  · rename_i hc; exact absurd h hc
  rename_i hc
  split at h
  · simp at h
  rename_i hl
  split at h
  · simp at h
  rename_i hk
  exact ⟨right_of (by simpa using hc), badLoop_none hl, fun i hi => badLeft_none hk i (by rw [known_len]; exact hi)⟩

theorem ends_all (W : WellG g) : ∀ (m p : Nat), s.length - p = m → p ≤ s.length → ∀ e, GoodE g (factsG g) e → EndsAt g s e p ∧ ((ofE g (factsG g) e).e = false → EndsR g s e p) := by
  intro m
  induction m using Nat.strongRecOn with
  | _ m ih =>
    intro p hm hp
    have H := fits_of W.right
    have hout : ∀ q, p < q → q ≤ s.length → ∀ e, GoodE g (factsG g) e → EndsAt g s e q ∧ ((ofE g (factsG g) e).e = false → EndsR g s e q) := fun q h1 h2 => ih (s.length - q) (by omega) q rfl h2
    have hrules : ∀ (i : Nat) (r : Rl), (knownG g (factsG g))[i]? = some true → g[i]? = some r → EndsAt g s r.2 p := by
      refine (grow_keeps (nx := nxB g (factsG g)) (P := fun kn => kn.length = g.length ∧ ∀ (i : Nat) (r : Rl), kn[i]? = some true → g[i]? = some r → EndsAt g s r.2 p) (fun kn i h hi _ => ⟨by simp; exact h.1, fun j r hj hr => ?_⟩) _ _ ⟨by simp, fun i r hi _ => ?_⟩).1.2
      · by_cases hij : i = j
        · subst hij
          rw [List.getElem?_set_self hi] at hj
          unfold nxB at hj
          rw [hr] at hj
          injection hj with hj
          have hmem := List.mem_of_getElem? hr
          exact ends_step H hp hout h.2 r.2 ⟨W.right.rt r hmem, W.noloop r hmem⟩ hj
        · rw [List.getElem?_set_ne hij] at hj
          exact h.2 j r hj hr
      · rw [List.getElem?_replicate] at hi
        split at hi
        · injection hi with hi; cases hi
        · cases hi
    intro e he
    have h1 := ends_step H hp hout hrules e he (sound_true W.known e he.rt)
    exact ⟨h1, fun hne => ends_R H hp he hne h1 fun q hq1 hq2 => (hout q hq1 hq2 e he).2 hne⟩
theorem ends (W : WellG g) {p : Nat} (hp : p ≤ s.length) {e : Ex} (he : GoodE g (factsG g) e) : EndsAt g s e p := (ends_all W _ p rfl hp e he).1
theorem WellG.good (W : WellG g) {r : Rl} (hr : r ∈ g) : GoodE g (factsG g) r.2 := ⟨W.right.rt r hr, W.noloop r hr⟩
end
end Go.Proofs.Ytndhbdbfjkmloaa
namespace Go.Proofs.Ytndhbdbfjkmloaa
open Go.RowKit

structure S4 where
  a : Int
  b : Int
  c : Int
  d : Int
def S4.val (s : S4) : Value := .agg #[.int .u64 s.a, .int .u64 s.b, .int .u64 s.c, .int .u64 s.d]
def S4.map2 (f : Int → Int → Int) (s t : S4) : S4 := ⟨f s.a t.a, f s.b t.b, f s.c t.c, f s.d t.d⟩

def orU (x y : Int) : Int := bits .or .u64 x y
def andU (x y : Int) : Int := bits .and .u64 x y
/-- the closure F computes f, and leaves the world alone -/
def Computes (F : Nat) (f : Int → Int → Int) : Prop := ∀ (x y : Int) (w : World), Calls Try.prog F #[.int .u64 x, .int .u64 y] w fun e w' => e = .returned (.int .u64 (f x y)) ∧ w = w'

theorem join_fn : Computes 88 orU := by
  intro x y w
  go_enter Try.func88, Try.ntmps88
  go_wp2
  go_ret
  exact ⟨rfl, rfl⟩
/-- the words of a set behind k rounds -/
def stage (f : Int → Int → Int) (s t : S4) (k : Nat) : Array Value :=
  #[.int .u64 (if 0 < k then f s.a t.a else s.a), .int .u64 (if 1 < k then f s.b t.b else s.b), .int .u64 (if 2 < k then f s.c t.c else s.c), .int .u64 (if 3 < k then f s.d t.d else s.d)]
theorem stage_step (f : Int → Int → Int) (s t : S4) (k : Nat) (hk : k < 4) :
    ∃ x y, (stage f s t k)[k]? = some (.int .u64 x) ∧ (stage f t t 0)[k]? = some (.int .u64 y) ∧ (stage f s t k).setIfInBounds k (.int .u64 (f x y)) = stage f s t (k + 1) := by
  rcases (by omega : k = 0 ∨ k = 1 ∨ k = 2 ∨ k = 3) with rfl | rfl | rfl | rfl
  · exact ⟨s.a, t.a, rfl, rfl, rfl⟩
  · exact ⟨s.b, t.b, rfl, rfl, rfl⟩
  · exact ⟨s.c, t.c, rfl, rfl, rfl⟩
  · exact ⟨s.d, t.d, rfl, rfl, rfl⟩

theorem both_join (s t : S4) (w : World) :
    Calls Try.prog 86 #[s.val, t.val, .func (.func 88) #[] #[]] w fun e w' => e = .returned (S4.map2 orU s t).val ∧ Below w.heap.size w w' := by
  unfold S4.val
  go_enter Try.func86, Try.ntmps86
  go_wp2
  go_loopw [7, 8] (fun _ i wr => ∃ k : Nat, k ≤ 4 ∧ i = .int .i64 k ∧ Blk wr w.heap.size 24 (stage orU s t k) ∧ Blk wr (w.heap.size + 1) 24 (stage orU t t 0) ∧ Blk wr (w.heap.size + 1 + 1) 24 #[.int .u64 0, .int .u64 0, .int .u64 0, .int .u64 0] ∧ Below w.heap.size w wr) (fun _ i _ => 4 - (intOf i).toNat)
  case atStart => exact ⟨0, by omega, rfl, ((blk_at rfl).alloc _).alloc _, (blk_at (by simp)).alloc _, blk_at (by simp), (by repeat (first | exact Below.refl _ _ | assumption | refine Below.drew ?_ | refine below_drewN ?_ _ | refine Below.alloc ?_ (by first | omega | (simp; omega) | simp) _ | refine Below.setCell ?_ (by first | omega | (simp; omega) | simp) _))⟩
  case round =>
    obtain ⟨k, hk, rfl, hs, ht, hz, hbw⟩ := hrel
    by_cases hk4 : k < 4
    · obtain ⟨x, y, hx, hy, hn⟩ := stage_step orU s t k hk4
      have hcx := hs.cell k
      have hcy := ht.cell k
      have hfz := hs.frozen k
      rw [hx] at hcx
      rw [hy] at hcy
      have HN := Lib.hid hn
      clear hx hy hn
      have hk0 : (0 : Int) ≤ (k : Int) := by omega
      have hk1 : (k : Int) < 4 := by omega
      go_wp2_with fail
      go_region_with (go_at_call 88; refine (join_fn x y _).mono ?_; rintro e w' ⟨rfl, rfl⟩)
      all_goals
        go_wp2
        go_roundw
        case rel =>
          refine ⟨k + 1, by omega, by go_num, ?_, ht.far (by simp) _, hz.far (by simp; omega) _, (hbw.drew).setCell (Nat.le_refl _) _⟩
          have := (hs.drew).set_ k (.int .u64 (orU x y))
          rw [HN.out] at this
          exact this
        case measure => simp [intOf]; omega
    · obtain rfl : k = 4 := by omega
      have h0 : wr.cell? ⟨w.heap.size, 0, none⟩ = some (.int .u64 (orU s.a t.a)) := hs.cell 0
      have h1 : wr.cell? ⟨w.heap.size, 1, none⟩ = some (.int .u64 (orU s.b t.b)) := hs.cell 1
      have h2 : wr.cell? ⟨w.heap.size, 2, none⟩ = some (.int .u64 (orU s.c t.c)) := hs.cell 2
      have h3 : wr.cell? ⟨w.heap.size, 3, none⟩ = some (.int .u64 (orU s.d t.d)) := hs.cell 3
      have z0 : wr.cell? ⟨w.heap.size + 1 + 1, 0, none⟩ = some (.int .u64 0) := hz.cell 0
      have z1 : wr.cell? ⟨w.heap.size + 1 + 1, 1, none⟩ = some (.int .u64 0) := hz.cell 1
      have z2 : wr.cell? ⟨w.heap.size + 1 + 1, 2, none⟩ = some (.int .u64 0) := hz.cell 2
      have z3 : wr.cell? ⟨w.heap.size + 1 + 1, 3, none⟩ = some (.int .u64 0) := hz.cell 3
      have f0 := hz.frozen 0
      have f1 := hz.frozen 1
      have f2 := hz.frozen 2
      have f3 := hz.frozen 3
      have e0 : (wr.setCell ⟨w.heap.size + 1 + 1, 0, none⟩ (.int .u64 (orU s.a t.a))).cell? ⟨w.heap.size + 1 + 1, 0, none⟩ = some (.int .u64 (orU s.a t.a)) := (hz.set_ 0 _).cell 0
      have e1 : ((wr.setCell ⟨w.heap.size + 1 + 1, 0, none⟩ (.int .u64 (orU s.a t.a))).setCell ⟨w.heap.size + 1 + 1, 1, none⟩ (.int .u64 (orU s.b t.b))).cell? ⟨w.heap.size + 1 + 1, 1, none⟩ = some (.int .u64 (orU s.b t.b)) := ((hz.set_ 0 _).set_ 1 _).cell 1
      have e2 : (((wr.setCell ⟨w.heap.size + 1 + 1, 0, none⟩ (.int .u64 (orU s.a t.a))).setCell ⟨w.heap.size + 1 + 1, 1, none⟩ (.int .u64 (orU s.b t.b))).setCell ⟨w.heap.size + 1 + 1, 2, none⟩ (.int .u64 (orU s.c t.c))).cell? ⟨w.heap.size + 1 + 1, 2, none⟩ = some (.int .u64 (orU s.c t.c)) := (((hz.set_ 0 _).set_ 1 _).set_ 2 _).cell 2
      have e3 : ((((wr.setCell ⟨w.heap.size + 1 + 1, 0, none⟩ (.int .u64 (orU s.a t.a))).setCell ⟨w.heap.size + 1 + 1, 1, none⟩ (.int .u64 (orU s.b t.b))).setCell ⟨w.heap.size + 1 + 1, 2, none⟩ (.int .u64 (orU s.c t.c))).setCell ⟨w.heap.size + 1 + 1, 3, none⟩ (.int .u64 (orU s.d t.d))).cell? ⟨w.heap.size + 1 + 1, 3, none⟩ = some (.int .u64 (orU s.d t.d)) := ((((hz.set_ 0 _).set_ 1 _).set_ 2 _).set_ 3 _).cell 3
      go_wp2
      exact bodyPost_ret (v := (S4.map2 orU s t).val) (by simp [results, Try.results86, go_sem, e0, e1, e2, e3]; rfl) rfl ⟨rfl, (by repeat (first | exact Below.refl _ _ | assumption | refine Below.drew ?_ | refine below_drewN ?_ _ | refine Below.alloc ?_ (by first | omega | (simp; omega) | simp) _ | refine Below.setCell ?_ (by first | omega | (simp; omega) | simp) _))⟩


end Go.Proofs.Ytndhbdbfjkmloaa
namespace Go.Proofs.Ytndhbdbfjkmloaa
open Go.RowKit

theorem join_any (s t : S4) (w : World) : Calls Try.prog 76 #[s.val, t.val] w fun e w' => e = .returned (S4.map2 orU s t).val ∧ Below w.heap.size w w' := by
  have hc := both_join s t
  have HC := Lib.hid hc
  clear hc
  unfold S4.val at HC ⊢
  go_enter Try.func76, Try.ntmps76
  go_wp2_with fail
  refine (HC.out _).mono ?_
  rintro e w1 ⟨rfl, hb1⟩
  have hz : Blk w1 (w.heap.size + 1 + 1) 24 #[.int .u64 0, .int .u64 0, .int .u64 0, .int .u64 0] := (blk_at (by simp)).below hb1 (by simp)
  have hw1 : Below w.heap.size w w1 := Below.trans (by repeat (first | exact Below.refl _ _ | assumption | refine Below.drew ?_ | refine below_drewN ?_ _ | refine Below.alloc ?_ (by first | omega | (simp; omega) | simp) _ | refine Below.setCell ?_ (by first | omega | (simp; omega) | simp) _)) (hb1.mono (by first | omega | (simp; omega) | simp))
  have hz1 := hw1.size
  clear hb1
  have z0 : w1.cell? ⟨w.heap.size + 1 + 1, 0, none⟩ = some (.int .u64 0) := hz.cell 0
  have z1 : w1.cell? ⟨w.heap.size + 1 + 1, 1, none⟩ = some (.int .u64 0) := hz.cell 1
  have z2 : w1.cell? ⟨w.heap.size + 1 + 1, 2, none⟩ = some (.int .u64 0) := hz.cell 2
  have z3 : w1.cell? ⟨w.heap.size + 1 + 1, 3, none⟩ = some (.int .u64 0) := hz.cell 3
  have f0 := hz.frozen 0
  have f1 := hz.frozen 1
  have f2 := hz.frozen 2
  have f3 := hz.frozen 3
  have e0 : (w1.setCell ⟨w.heap.size + 1 + 1, 0, none⟩ (.int .u64 (orU s.a t.a))).cell? ⟨w.heap.size + 1 + 1, 0, none⟩ = some (.int .u64 (orU s.a t.a)) := (hz.set_ 0 _).cell 0
  have e1 : ((w1.setCell ⟨w.heap.size + 1 + 1, 0, none⟩ (.int .u64 (orU s.a t.a))).setCell ⟨w.heap.size + 1 + 1, 1, none⟩ (.int .u64 (orU s.b t.b))).cell? ⟨w.heap.size + 1 + 1, 1, none⟩ = some (.int .u64 (orU s.b t.b)) := ((hz.set_ 0 _).set_ 1 _).cell 1
  have e2 : (((w1.setCell ⟨w.heap.size + 1 + 1, 0, none⟩ (.int .u64 (orU s.a t.a))).setCell ⟨w.heap.size + 1 + 1, 1, none⟩ (.int .u64 (orU s.b t.b))).setCell ⟨w.heap.size + 1 + 1, 2, none⟩ (.int .u64 (orU s.c t.c))).cell? ⟨w.heap.size + 1 + 1, 2, none⟩ = some (.int .u64 (orU s.c t.c)) := (((hz.set_ 0 _).set_ 1 _).set_ 2 _).cell 2
  have e3 : ((((w1.setCell ⟨w.heap.size + 1 + 1, 0, none⟩ (.int .u64 (orU s.a t.a))).setCell ⟨w.heap.size + 1 + 1, 1, none⟩ (.int .u64 (orU s.b t.b))).setCell ⟨w.heap.size + 1 + 1, 2, none⟩ (.int .u64 (orU s.c t.c))).setCell ⟨w.heap.size + 1 + 1, 3, none⟩ (.int .u64 (orU s.d t.d))).cell? ⟨w.heap.size + 1 + 1, 3, none⟩ = some (.int .u64 (orU s.d t.d)) := ((((hz.set_ 0 _).set_ 1 _).set_ 2 _).set_ 3 _).cell 3
  unfold S4.map2 at *
  go_wp2
  exact bodyPost_ret (v := .agg #[.int .u64 (orU s.a t.a), .int .u64 (orU s.b t.b), .int .u64 (orU s.c t.c), .int .u64 (orU s.d t.d)]) (by simp [results, Try.results76, go_sem, e0, e1, e2, e3]) rfl ⟨rfl, (by repeat (first | exact Below.refl _ _ | assumption | refine Below.drew ?_ | refine below_drewN ?_ _ | refine Below.alloc ?_ (by first | omega | (simp; omega) | simp) _ | refine Below.setCell ?_ (by first | omega | (simp; omega) | simp) _))⟩
end Go.Proofs.Ytndhbdbfjkmloaa
namespace Go.Proofs.Ytndhbdbfjkmloaa
open Go.RowKit

/-- the words of set.Range behind so many rounds from lo on -/
def rangeL (lo : Nat) : Nat → List Nat
  | 0 => [0, 0, 0, 0]
  | k + 1 => (rangeL lo k).set ((lo + k) / 64) ((rangeL lo k).getD ((lo + k) / 64) 0 ||| 2 ^ ((lo + k) % 64))
def words (l : List Nat) : Array Value := (l.map fun x : Nat => Value.int .u64 x).toArray

theorem four_of {l : List Nat} (h : l.length = 4) : ∃ x0 x1 x2 x3, l = [x0, x1, x2, x3] :=
  match l, h with
  | [x0, x1, x2, x3], _ => ⟨x0, x1, x2, x3, rfl⟩
theorem rangeL_len (lo : Nat) : ∀ k, (rangeL lo k).length = 4
  | 0 => rfl
  | k + 1 => by rw [rangeL, List.length_set, rangeL_len lo k]
theorem words_get {l : List Nat} {i : Nat} (h : i < l.length) : (words l)[i]? = some (.int .u64 ((l.getD i 0 : Nat) : Int)) := by
  simp [words, h]
theorem words_set (l : List Nat) (i : Nat) (x : Nat) : (words l).setIfInBounds i (.int .u64 (x : Int)) = words (l.set i x) := by
  simp [words, List.map_set]

theorem and63 (b : Nat) (h : b < 256) : bits .and .i64 (b : Int) 63 = ((b % 64 : Nat) : Int) := by
  have h' : ∀ b : Fin 256, bits .and .i64 ((b : Nat) : Int) 63 = (((b : Nat) % 64 : Nat) : Int) := by decide +kernel
  exact h' ⟨b, h⟩

theorem or_bit {x r : Nat} (hx : x < 18446744073709551616) (hr : r < 64) : bits .or .u64 (x : Int) (IntKind.u64.wrap (2 ^ r)) = ((x ||| 2 ^ r : Nat) : Int) := by
  have h2 : (2 : Nat) ^ r < 18446744073709551616 := by
    have : (2 : Nat) ^ r < 2 ^ 64 := Nat.pow_lt_pow_right (by omega) hr
    simpa using this
  have h3 : IntKind.u64.wrap (2 ^ r) = ((2 ^ r : Nat) : Int) := by
    rw [show ((2 : Int) ^ r) = ((2 ^ r : Nat) : Int) by simp]
    generalize 2 ^ r = p at *
    rw [IntKind.wrap_u64]
    omega
  rw [h3, u64_or_nat x (2 ^ r) hx h2]
theorem rangeL_lt (lo : Nat) : ∀ k i, (rangeL lo k).getD i 0 < 18446744073709551616
  | 0, i => by
    match i with
    | 0 => show 0 < 18446744073709551616; decide
    | 1 => show 0 < 18446744073709551616; decide
    | 2 => show 0 < 18446744073709551616; decide
    | 3 => show 0 < 18446744073709551616; decide
    | i + 4 => simp [rangeL]
  | k + 1, i => by
    have ih := rangeL_lt lo k
    rw [rangeL, List.getD_eq_getElem?_getD, List.getElem?_set]
    split
    · split
      · have h1 : (2 : Nat) ^ ((lo + k) % 64) < 2 ^ 64 := Nat.pow_lt_pow_right (by omega) (Nat.mod_lt _ (by omega))
        have h2 := ih ((lo + k) / 64)
        have := Nat.or_lt_two_pow (n := 64) (by simpa using h2) h1
        simpa using this
      · simp
    · have := ih i
      rwa [List.getD_eq_getElem?_getD] at this

set_option maxHeartbeats 1600000 in
theorem range_any (low high : Int) (w : World) (h1 : I64 low) (h2 : I64 high) (lo n : Nat) (hlo : (low ≤ 0 ∧ lo = 0) ∨ (low = lo ∧ 0 < lo)) (hn : n = (min 255 high + 1 - lo).toNat) :
    Calls Try.prog 58 #[.int .i64 low, .int .i64 high] w fun e w' => e = .returned (.agg (words (rangeL lo n))) ∧ Below w.heap.size w w' := by
  obtain ⟨h1a, h1b⟩ := h1
  obtain ⟨h2a, h2b⟩ := h2
  have hn1 : n = 0 ∨ (lo : Int) + n ≤ 256 := by omega
  have HN := Lib.hid hn
  clear hn
  have h0 : Hid (low ≤ 0 → lo = 0) := fun h => by omega
  rcases (show low ≤ 0 ∨ (low = lo ∧ 0 < lo) by omega) with hlo | ⟨rfl, hlo⟩
  all_goals
    go_enter Try.func58, Try.ntmps58
    go_wp2
    go_loopw [5] (fun i wr => ∃ b k : Nat, b = lo + k ∧ k ≤ n ∧ i = .int .i64 b ∧ Blk wr w.heap.size 24 (words (rangeL lo k)) ∧ Below w.heap.size w wr) (fun i _ => 300 - (intOf i).toNat)
    case atStart => exact ⟨lo, 0, rfl, by omega, by first | rfl | (rw [h0.out hlo]; rfl) | (rw [h0.out hlo, Int.max_eq_left hlo]; rfl) | (rw [Int.max_eq_right (by omega)]), blk_at rfl, (by repeat (first | exact Below.refl _ _ | assumption | refine Below.drew ?_ | refine below_drewN ?_ _ | refine Below.alloc ?_ (by first | omega | (simp; omega) | simp) _ | refine Below.setCell ?_ (by first | omega | (simp; omega) | simp) _))⟩
    case round =>
      obtain ⟨b, k, hbk, hk, rfl, hb, hbw⟩ := hrel
      have HBK := Lib.hid hbk
      by_cases hkn : k < n
      · have hb256 : b < 256 := by omega
        have hle : (b : Int) ≤ min 255 high := by have := HN.out; omega
        have hl := rangeL_len lo k
        obtain ⟨q, r, hq, hr, hr64, hq4, hqn, hrn⟩ : ∃ q r : Nat, (b : Int) / 64 = q ∧ bits .and .i64 (b : Int) 63 = r ∧ r < 64 ∧ q < 4 ∧ (lo + k) / 64 = q ∧ (lo + k) % 64 = r :=
          ⟨b / 64, b % 64, by omega, by rw [and63 b hb256], by omega, by omega, by omega, by omega⟩
        have HQ := Lib.hid hqn
        have HR := Lib.hid hrn
        have hc := hb.cell q
        have hf := hb.frozen q
        rw [words_get (by omega)] at hc
        generalize hx : (rangeL lo k).getD q 0 = x at hc
        have HX := Lib.hid hx
        have HL := Lib.hid hl
        clear hx hl hbk hqn hrn
        by_cases hh : high < 255
        · go_wp2
          go_region
          all_goals
            go_wp2
            go_roundw
            case rel =>
              refine ⟨b + 1, k + 1, by have := HBK.out; omega, by omega, by go_num, ?_, (hbw.drew).setCell (Nat.le_refl _) _⟩
              have h := (hb.drew).set_ q (.int .u64 ((x ||| 2 ^ r : Nat) : Int))
              rw [words_set, ← HX.out, ← HQ.out, ← HR.out] at h
              rw [or_bit (by rw [← HX.out]; exact rangeL_lt lo k q) hr64, ← HX.out]
              rw [← HQ.out, ← HR.out]
              exact h
            case measure => simp [intOf]; omega
        · go_wp2
          go_region
          all_goals
            go_wp2
            go_roundw
            case rel =>
              refine ⟨b + 1, k + 1, by have := HBK.out; omega, by omega, by go_num, ?_, (hbw.drew).setCell (Nat.le_refl _) _⟩
              have h := (hb.drew).set_ q (.int .u64 ((x ||| 2 ^ r : Nat) : Int))
              rw [words_set, ← HX.out, ← HQ.out, ← HR.out] at h
              rw [or_bit (by rw [← HX.out]; exact rangeL_lt lo k q) hr64, ← HX.out]
              rw [← HQ.out, ← HR.out]
              exact h
            case measure => simp [intOf]; omega
      · obtain rfl : k = n := by omega
        have hl := rangeL_len lo k
        have hgt : min 255 high < b := by have := HN.out; have := HBK.out; omega
        obtain ⟨x0, x1, x2, x3, hL⟩ := four_of hl
        rw [hL] at hb
        have HLL := Lib.hid hL
        clear hL hl
        have c0 : wr.cell? ⟨w.heap.size, 0, none⟩ = some (.int .u64 x0) := hb.cell 0
        have c1 : wr.cell? ⟨w.heap.size, 1, none⟩ = some (.int .u64 x1) := hb.cell 1
        have c2 : wr.cell? ⟨w.heap.size, 2, none⟩ = some (.int .u64 x2) := hb.cell 2
        have c3 : wr.cell? ⟨w.heap.size, 3, none⟩ = some (.int .u64 x3) := hb.cell 3
        have f0 := hb.frozen 0
        have f1 := hb.frozen 1
        have f2 := hb.frozen 2
        have f3 := hb.frozen 3
        have e0 : (wr.setCell ⟨w.heap.size, 0, none⟩ (.int .u64 (x0 : Int))).cell? ⟨w.heap.size, 0, none⟩ = some (.int .u64 (x0 : Int)) := (hb.set_ 0 _).cell 0
        have e1 : ((wr.setCell ⟨w.heap.size, 0, none⟩ (.int .u64 (x0 : Int))).setCell ⟨w.heap.size, 1, none⟩ (.int .u64 (x1 : Int))).cell? ⟨w.heap.size, 1, none⟩ = some (.int .u64 (x1 : Int)) := ((hb.set_ 0 _).set_ 1 _).cell 1
        have e2 : (((wr.setCell ⟨w.heap.size, 0, none⟩ (.int .u64 (x0 : Int))).setCell ⟨w.heap.size, 1, none⟩ (.int .u64 (x1 : Int))).setCell ⟨w.heap.size, 2, none⟩ (.int .u64 (x2 : Int))).cell? ⟨w.heap.size, 2, none⟩ = some (.int .u64 (x2 : Int)) := (((hb.set_ 0 _).set_ 1 _).set_ 2 _).cell 2
        have e3 : ((((wr.setCell ⟨w.heap.size, 0, none⟩ (.int .u64 (x0 : Int))).setCell ⟨w.heap.size, 1, none⟩ (.int .u64 (x1 : Int))).setCell ⟨w.heap.size, 2, none⟩ (.int .u64 (x2 : Int))).setCell ⟨w.heap.size, 3, none⟩ (.int .u64 (x3 : Int))).cell? ⟨w.heap.size, 3, none⟩ = some (.int .u64 (x3 : Int)) := ((((hb.set_ 0 _).set_ 1 _).set_ 2 _).set_ 3 _).cell 3
        by_cases hh : high < 255
        all_goals
          go_wp2
          exact bodyPost_ret (v := .agg #[.int .u64 x0, .int .u64 x1, .int .u64 x2, .int .u64 x3]) (by simp [results, Try.results58, go_sem, e0, e1, e2, e3]) rfl ⟨by rw [HLL.out]; rfl, (by repeat (first | exact Below.refl _ _ | assumption | refine Below.drew ?_ | refine below_drewN ?_ _ | refine Below.alloc ?_ (by first | omega | (simp; omega) | simp) _ | refine Below.setCell ?_ (by first | omega | (simp; omega) | simp) _))⟩
end Go.Proofs.Ytndhbdbfjkmloaa
namespace Go.Proofs.Ytndhbdbfjkmloaa

/-- what a parser remembers: outcomes of rules at places, the steps, the farthest miss and what was wanted there; marks of nodes -/
structure PS where
  seen : List ((Nat × Nat) × Option Nat)
  log : List (Nat × Nat × Option Nat)
  far : Int
  want : S4
  marks : List Nat
def recall (l : List ((Nat × Nat) × Option Nat)) (k : Nat × Nat) : Option (Option Nat) := (l.find? fun x => decide (x.1 = k)).map (·.2)
def noS : S4 := ⟨0, 0, 0, 0⟩
/-- the set of one byte -/
def oneS (c : Nat) : S4 := ⟨((rangeL c 1).getD 0 0 : Nat), ((rangeL c 1).getD 1 0 : Nat), ((rangeL c 1).getD 2 0 : Nat), ((rangeL c 1).getD 3 0 : Nat)⟩
/-- a byte of these was missed at a place -/
def missS (σ : PS) (p : Nat) (w : S4) : PS :=
  if σ.far < (p : Int) then { σ with far := p, want := S4.map2 orU noS w }
  else if (p : Int) = σ.far then { σ with want := S4.map2 orU σ.want w } else σ
/-- how much of a text stands at a place -/
def alike (s : List UInt8) (p : Nat) (t : List UInt8) : Nat → Nat → Nat
  | 0, k => k
  | f + 1, k => if p + k < s.length ∧ bt s (p + k) = bt t k then alike s p t f (k + 1) else k
def matchN (s : List UInt8) (p : Nat) (t : List UInt8) : Nat := alike s p t t.length 0
/-- the number of a rule's first node -/
def firstN (g : List Rl) (i : Nat) : Nat := ((g.take i).map fun r => nodes r.2).sum
/-- a node was tried -/
def markS (hook : Bool) (σ : PS) (n : Nat) (ok : Bool) : PS :=
  if hook then { σ with marks := σ.marks.set n (σ.marks.getD n 0 ||| (if ok then 1 else 2)) } else σ

inductive PJob where
  | node (e : Ex) (n : Nat)
  | try_ (e : Ex) (n : Nat)
  | rule (i : Nat)
  | seq (es : List Ex) (n : Nat)
  | alt (es : List Ex) (n : Nat)
  | rep (e : Ex) (n : Nat)
  | one (k : Int) (e : Ex) (n : Nat)

/-- what comes of it, and what is remembered then -/
def pk (g : List Rl) (s : List UInt8) (hook : Bool) : Nat → PJob → Nat → PS → Option (Option Nat × PS)
  | 0, _, _, _ => none
  | m + 1, .try_ e n, p, σ => match pk g s hook m (.node e n) p σ with
    | none => none
    | some (o, σ1) => some (o, markS hook σ1 n o.isSome)
  | m + 1, .rule i, p, σ => match recall σ.seen (i, p) with
    | some o => some (o.map (p + ·), σ)
    | none => match g[i]? with
      | none => none
      | some r => match pk g s hook m (.try_ r.2 (firstN g i)) p σ with
        | none => none
        | some (o, σ1) => if (recall σ1.seen (i, p)).isSome then none else some (o, { σ1 with seen := σ1.seen ++ [((i, p), o.map (· - p))], log := σ1.log ++ [(i, p, o.map (· - p))] })
  | m + 1, .node (.mk k a b c d t ks) n, p, σ =>
    if k = 1 then some (some p, σ)
    else if k = 2 then (if p < s.length ∧ hasE a b c d (bt s p) = true then some (some (p + 1), σ) else some (none, missS σ p ⟨a, b, c, d⟩))
    else if k = 3 then (if litAt s p t.data.toList = true then some (some (p + t.size), σ) else some (none, missS σ (p + matchN s p t.data.toList) (oneS (bt t.data.toList (matchN s p t.data.toList)))))
    else if k = 4 then pk g s hook m (.rule (fnd g t.data.toList).toNat) p σ
    else if k = 5 then pk g s hook m (.seq ks (n + 1)) p σ
    else if k = 6 then pk g s hook m (.alt ks (n + 1)) p σ
    else (match ks with
      | [] => none
      | e :: _ => pk g s hook m (.one k e n) p σ)
  | m + 1, .one k e n, p, σ => match pk g s hook m (.try_ e (n + 1)) p σ with
    | none => none
    | some (none, σ1) => some (if k = 8 ∨ k = 10 then none else some p, σ1)
    | some (some to, σ1) => if k = 10 then some (some p, σ1) else if k = 11 then some (none, σ1) else if k = 9 then some (some to, σ1) else pk g s hook m (.rep e (n + 1)) to σ1
  | _ + 1, .seq [] _, p, σ => some (some p, σ)
  | m + 1, .seq (e :: es) n, p, σ => match pk g s hook m (.try_ e n) p σ with
    | none => none
    | some (none, σ1) => some (none, σ1)
    | some (some to, σ1) => pk g s hook m (.seq es (n + nodes e)) to σ1
  | _ + 1, .alt [] _, _, σ => some (none, σ)
  | m + 1, .alt (e :: es) n, p, σ => match pk g s hook m (.try_ e n) p σ with
    | none => none
    | some (some to, σ1) => some (some to, σ1)
    | some (none, σ1) => pk g s hook m (.alt es (n + nodes e)) p σ1
  | m + 1, .rep e n, p, σ => match pk g s hook m (.try_ e n) p σ with
    | none => none
    | some (none, σ1) => some (some p, σ1)
    | some (some to, σ1) => pk g s hook m (.rep e n) to σ1

theorem pk_node (g : List Rl) (s : List UInt8) (hook : Bool) (m : Nat) (k a b c d : Int) (t : ByteArray) (ks : List Ex) (n p : Nat) (σ : PS) : pk g s hook (m + 1) (.node (.mk k a b c d t ks) n) p σ =
    if k = 1 then some (some p, σ)
    else if k = 2 then (if p < s.length ∧ hasE a b c d (bt s p) = true then some (some (p + 1), σ) else some (none, missS σ p ⟨a, b, c, d⟩))
    else if k = 3 then (if litAt s p t.data.toList = true then some (some (p + t.size), σ) else some (none, missS σ (p + matchN s p t.data.toList) (oneS (bt t.data.toList (matchN s p t.data.toList)))))
    else if k = 4 then pk g s hook m (.rule (fnd g t.data.toList).toNat) p σ
    else if k = 5 then pk g s hook m (.seq ks (n + 1)) p σ
    else if k = 6 then pk g s hook m (.alt ks (n + 1)) p σ
    else (match ks with
      | [] => none
      | e :: _ => pk g s hook m (.one k e n) p σ) := rfl
theorem pk_mono (g : List Rl) (s : List UInt8) (hook : Bool) : ∀ m j p σ r, pk g s hook m j p σ = some r → pk g s hook (m + 1) j p σ = some r := by
  intro m
  induction m with
  | zero => intro j p σ r h; cases h
  | succ m ih =>
    intro j p σ r h
    cases j with
    | try_ e n =>
      simp only [pk] at h
      show (match pk g s hook (m + 1) (.node e n) p σ with | none => none | some (o, σ1) => some (o, markS hook σ1 n o.isSome)) = some r
      cases he : pk g s hook m (.node e n) p σ with
      | none => rw [he] at h; cases h
      | some x => rw [he] at h; rw [ih _ _ _ _ he]; exact h
    | rule i =>
      simp only [pk] at h
      show (match recall σ.seen (i, p) with
        | some o => some (o.map (p + ·), σ)
        | none => match g[i]? with
          | none => none
          | some r => match pk g s hook (m + 1) (.try_ r.2 (firstN g i)) p σ with
            | none => none
            | some (o, σ1) => if (recall σ1.seen (i, p)).isSome then none else some (o, { σ1 with seen := σ1.seen ++ [((i, p), o.map (· - p))], log := σ1.log ++ [(i, p, o.map (· - p))] })) = some r
      cases hs : recall σ.seen (i, p) with
      | some o => rw [hs] at h; exact h
      | none =>
        rw [hs] at h
        simp only at h ⊢
        cases hg : g[i]? with
        | none => rw [hg] at h; cases h
        | some rr =>
          rw [hg] at h
          simp only at h ⊢
          cases he : pk g s hook m (.try_ rr.2 (firstN g i)) p σ with
          | none => rw [he] at h; cases h
          | some x => rw [he] at h; rw [ih _ _ _ _ he]; exact h
    | seq es n =>
      cases es with
      | nil => exact h
      | cons e es =>
        simp only [pk] at h
        show (match pk g s hook (m + 1) (.try_ e n) p σ with
          | none => none
          | some (none, σ1) => some (none, σ1)
          | some (some to, σ1) => pk g s hook (m + 1) (.seq es (n + nodes e)) to σ1) = some r
        cases he : pk g s hook m (.try_ e n) p σ with
        | none => rw [he] at h; cases h
        | some x =>
          rw [he] at h
          rw [ih _ _ _ _ he]
          obtain ⟨o, σ1⟩ := x
          cases o with
          | none => exact h
          | some to => exact ih _ _ _ _ h
    | alt es n =>
      cases es with
      | nil => exact h
      | cons e es =>
        simp only [pk] at h
        show (match pk g s hook (m + 1) (.try_ e n) p σ with
          | none => none
          | some (some to, σ1) => some (some to, σ1)
          | some (none, σ1) => pk g s hook (m + 1) (.alt es (n + nodes e)) p σ1) = some r
        cases he : pk g s hook m (.try_ e n) p σ with
        | none => rw [he] at h; cases h
        | some x =>
          rw [he] at h
          rw [ih _ _ _ _ he]
          obtain ⟨o, σ1⟩ := x
          cases o with
          | some to => exact h
          | none => exact ih _ _ _ _ h
    | rep e n =>
      simp only [pk] at h
      show (match pk g s hook (m + 1) (.try_ e n) p σ with
        | none => none
        | some (none, σ1) => some (some p, σ1)
        | some (some to, σ1) => pk g s hook (m + 1) (.rep e n) to σ1) = some r
      cases he : pk g s hook m (.try_ e n) p σ with
      | none => rw [he] at h; cases h
      | some x =>
        rw [he] at h
        rw [ih _ _ _ _ he]
        obtain ⟨o, σ1⟩ := x
        cases o with
        | none => exact h
        | some to => exact ih _ _ _ _ h
    | node e n =>
      obtain ⟨k, a, b, c, d, t, ks⟩ := e
      rw [pk_node] at h
      rw [pk_node]
      by_cases k1 : k = 1
      · rw [if_pos k1] at h ⊢; exact h
      rw [if_neg k1] at h ⊢
      by_cases k2 : k = 2
      · rw [if_pos k2] at h ⊢; exact h
      rw [if_neg k2] at h ⊢
      by_cases k3 : k = 3
      · rw [if_pos k3] at h ⊢; exact h
      rw [if_neg k3] at h ⊢
      by_cases k4 : k = 4
      · rw [if_pos k4] at h ⊢; exact ih _ _ _ _ h
      rw [if_neg k4] at h ⊢
      by_cases k5 : k = 5
      · rw [if_pos k5] at h ⊢; exact ih _ _ _ _ h
      rw [if_neg k5] at h ⊢
      by_cases k6 : k = 6
      · rw [if_pos k6] at h ⊢; exact ih _ _ _ _ h
      rw [if_neg k6] at h ⊢
      cases ks with
      | nil => exact h
      | cons e es => exact ih _ _ _ _ h
    | one k e n =>
      simp only [pk] at h
      show (match pk g s hook (m + 1) (.try_ e (n + 1)) p σ with
        | none => none
        | some (none, σ1) => some (if k = 8 ∨ k = 10 then none else some p, σ1)
        | some (some to, σ1) => if k = 10 then some (some p, σ1) else if k = 11 then some (none, σ1) else if k = 9 then some (some to, σ1) else pk g s hook (m + 1) (.rep e (n + 1)) to σ1) = some r
      cases he : pk g s hook m (.try_ e (n + 1)) p σ with
      | none => rw [he] at h; cases h
      | some x =>
        rw [he] at h
        rw [ih _ _ _ _ he]
        obtain ⟨o, σ1⟩ := x
        cases o with
        | none => exact h
        | some to =>
          simp only at h ⊢
          by_cases k10 : k = 10
          · rw [if_pos k10] at h ⊢; exact h
          rw [if_neg k10] at h ⊢
          by_cases k11 : k = 11
          · rw [if_pos k11] at h ⊢; exact h
          rw [if_neg k11] at h ⊢
          by_cases k9 : k = 9
          · rw [if_pos k9] at h ⊢; exact h
          rw [if_neg k9] at h ⊢
          exact ih _ _ _ _ h
theorem pk_le {g : List Rl} {s : List UInt8} {hook : Bool} {m m' : Nat} {j : PJob} {p : Nat} {σ : PS} {r : Option Nat × PS} (h : pk g s hook m j p σ = some r) (hm : m ≤ m') : pk g s hook m' j p σ = some r := by
  induction hm with
  | refl => exact h
  | step _ ih => exact pk_mono _ _ _ _ _ _ _ _ ih
end Go.Proofs.Ytndhbdbfjkmloaa
