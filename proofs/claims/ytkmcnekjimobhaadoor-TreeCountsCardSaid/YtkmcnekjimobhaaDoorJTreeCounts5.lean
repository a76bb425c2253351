/- Ford: of a grammar that is well all comes to an end. Plain. QuoteOrder, plain: decimal numerals and their lengths; a numeral is read as it was. A tree has no more nodes than steps were taken; its text has one ':' for each. Plain. What tree.Count and event.Of answer. What chaffref.SameTree answers. The shelf's contracts of strings.Builder, laid at this seat (printed by wip/gensb.py). The contract of strconv.Itoa, laid by the kit's shelf at this seat (wip/shelf.py writes this text anew for another seat). Numerals as bytes; the table of powers in memory. -/
import Derived.Test.YtkmcnekjimobhaaDoorJTreeCounts4
import Derived.Lib.AtoiAllCases
import Derived.Lib.ItoaNum
import Derived.Lib.ItoaLen
import Derived.Test.YtkmcnekjimobhaaDoorJTreeCounts3
import Derived.Test.YtkmcnekjimobhaaDoorJTreeCounts2
import Derived.Shelf.Strings.BuilderF
import Derived.Shelf.Strings.BuilderK
import Derived.Test.YtkmcnekjimobhaaDoorProg
import Derived.Shelf.LaysM
import Derived.Shelf.Strconv.Itoa3
import Derived.Test.YtkmcnekjimobhaaDoorJTreeCounts0
namespace Go.Proofs.YtkmcnekjimobhaaDoor

def nxB (g : List Rl) (fs : List Fa) (kn : List Bool) (i : Nat) : Bool := match g[i]? with
  | some r => soundE g fs kn r.2
  | none => false
def knownG (g : List Rl) (fs : List Fa) : List Bool := growG (nxB g fs) (wtL boOrd (List.replicate g.length false) + 1) (List.replicate g.length false)
def badLoop (g : List Rl) (fs : List Fa) : List Rl → Nat → Option Nat
  | [], _ => none
  | r :: rs, i => if loopsE g fs r.2 = true then some i else badLoop g fs rs (i + 1)
def badLeft : List Bool → Nat → Option Nat
  | [], _ => none
  | b :: bs, i => if b = false then some i else badLeft bs (i + 1)
/-- what well.Well says -/
def wellG (g : List Rl) : Int × Int :=
  if checkG g ≠ 0 then (0, checkG g) else match badLoop g (factsG g) g 0 with
    | some i => (i, 9)
    | none => match badLeft (knownG g (factsG g)) 0 with
      | some i => (i, 8)
      | none => (0, 0)

/-! a right grammar -/
theorem looks_fit : ∀ (ks : List Ex) (n deep : Nat), (looks ks n deep).1 = 0 → ∀ e ∈ ks, ∃ n' d', (lookN e n' d').1 = 0
  | [], _, _, _ => fun e he => by cases he
  | e :: es, n, deep, h => fun e' he' => by
    unfold looks at h
    split at h
    · rename_i h0
      rcases List.mem_cons.1 he' with rfl | he'
      · exact ⟨_, _, h0⟩
      · exact looks_fit es _ _ h e' he'
    · rename_i h0
      exact absurd h h0
theorem look_fit {k a b c d : Int} {t : ByteArray} {ks : List Ex} {n deep : Nat} (h : (lookN (.mk k a b c d t ks) n deep).1 = 0) : fitB k a b c d t.data.toList ks.length = true ∧ ∀ e ∈ ks, ∃ n' d', (lookN e n' d').1 = 0 := by
  unfold lookN at h
  split at h
  · simp at h
  split at h
  · simp at h
  split at h
  · simp at h
  · rename_i h3
    exact ⟨by simpa using h3, looks_fit _ _ _ h⟩
theorem refStep_keeps {acc : List ByteArray} {p : Int × ByteArray} {s : ByteArray} (h : s ∈ acc) : s ∈ refStep acc p := by
  unfold refStep
  split
  · simp [h]
  · exact h
theorem mem_refsL : ∀ (l : List (Int × ByteArray)) (acc : List ByteArray) (s : ByteArray), s ∈ l.foldl refStep acc ↔ s ∈ acc ∨ ((4 : Int), s) ∈ l
  | [], acc, s => by simp
  | p :: l, acc, s => by
    rw [List.foldl_cons, mem_refsL l _ s]
    constructor
    · rintro (h | h)
      · unfold refStep at h
        split at h
        · rename_i hp
          rcases List.mem_append.1 h with h | h
          · exact .inl h
          · simp at h
            refine .inr ?_
            rw [h, ← hp.1]
            simp
        · exact .inl h
      · exact .inr (List.mem_cons_of_mem _ h)
    · rintro (h | h)
      · exact .inl (refStep_keeps h)
      · rcases List.mem_cons.1 h with h | h
        · refine .inl ?_
          rw [← h]
          unfold refStep
          by_cases hs : s ∈ acc
          · rw [if_neg (by simp [hs])]; exact hs
          · rw [if_pos ⟨rfl, hs⟩]; simp
        · exact .inr h
theorem mem_refsE (e : Ex) (s : ByteArray) : s ∈ refsE e ↔ ((4 : Int), s) ∈ preE e := by
  unfold refsE refsL
  rw [mem_refsL]
  simp
theorem mem_preEs {p : Int × ByteArray} : ∀ {ks : List Ex} {e : Ex}, e ∈ ks → p ∈ preE e → p ∈ preEs ks
  | [], e, he, _ => by cases he
  | x :: xs, e, he, hp => by
    rw [preEs]
    rcases List.mem_cons.1 he with rfl | he
    · exact List.mem_append_left _ hp
    · exact List.mem_append_right _ (mem_preEs he hp)
theorem rt_of {g : List Rl} (e : Ex) : (∃ n d, (lookN e n d).1 = 0) → (∀ s, ((4 : Int), s) ∈ preE e → 0 ≤ fnd g s.data.toList) → Rt g e := by
  refine Ex.ind (P := fun e => (∃ n d, (lookN e n d).1 = 0) → (∀ s, ((4 : Int), s) ∈ preE e → 0 ≤ fnd g s.data.toList) → Rt g e) ?_ e
  rintro k a b c d t ks ih ⟨n, dd, h⟩ hr
  obtain ⟨h1, h2⟩ := look_fit h
  refine .mk k a b c d t ks h1 (fun hk => hr t ?_) fun e he => ih e he (h2 e he) fun s hs => hr s ?_
  · rw [preE, hk]; simp
  · rw [preE]
    exact List.mem_cons_of_mem _ (mem_preEs he hs)
theorem known1_all {g : List Rl} : ∀ {l : List ByteArray}, known1 g l = true → ∀ s ∈ l, 0 ≤ fnd g s.data.toList
  | [], _ => fun s hs => by cases hs
  | x :: xs, h => fun s hs => by
    unfold known1 at h
    split at h
    · cases h
    · rcases List.mem_cons.1 hs with rfl | hs
      · omega
      · exact known1_all h s hs
theorem chk2_all {g : List Rl} : ∀ {l : List Rl}, chk2 g l = 0 → ∀ r ∈ l, ∀ s ∈ refsC r.2, 0 ≤ fnd g s.data.toList
  | [], _ => fun r hr => by cases hr
  | x :: xs, h => fun r hr => by
    unfold chk2 at h
    split at h
    · simp at h
    · rename_i hk
      rcases List.mem_cons.1 hr with rfl | hr
      · exact known1_all (by simpa using hk)
      · exact chk2_all h r hr
theorem chk1_all {g : List Rl} : ∀ {l : List Rl} {i all : Nat}, (chk1 g l i all).1 = 0 → (∀ r ∈ l, nameB r.1.data.toList = true ∧ checkE r.2 = 0) ∧ (∀ (j : Nat) (r : Rl), l[j]? = some r → fnd g r.1.data.toList = ((i + j : Nat) : Int)) ∧ (chk1 g l i all).2 = all + (l.map fun r => nodes r.2).sum
  | [], i, all, _ => ⟨fun r hr => (by cases hr), fun j r h => (by simp at h), by simp [chk1]⟩
  | x :: xs, i, all, h => by
    unfold chk1 at h ⊢
    split at h
    · simp at h
    rename_i h1
    split at h
    · simp at h
    rename_i h2
    split at h
    · rename_i h3; exact absurd h h3
    rename_i h3
    obtain ⟨a1, a2, a3⟩ := chk1_all h
    rw [if_neg h1, if_neg h2, if_neg h3]
    refine ⟨fun r hr => ?_, fun j r hj => ?_, by rw [a3]; simp; omega⟩
    · rcases List.mem_cons.1 hr with rfl | hr
      · exact ⟨by simpa using h1, by simpa using h3⟩
      · exact a1 r hr
    · cases j with
      | zero =>
        simp at hj
        subst hj
        simpa using h2
      | succ j =>
        rw [a2 j r (by simpa using hj)]
        omega
/-- what a right grammar is -/
structure RightG (g : List Rl) : Prop where
  pos : 0 < g.length
  ten : g.length ≤ 10
  nodes : (g.map fun r => nodes r.2).sum ≤ 120
  named : ∀ r ∈ g, nameB r.1.data.toList = true
  once : ∀ (j : Nat) (r : Rl), g[j]? = some r → fnd g r.1.data.toList = (j : Int)
  body : ∀ r ∈ g, checkE r.2 = 0
  rt : ∀ r ∈ g, Rt g r.2
theorem right_of {g : List Rl} (h : checkG g = 0) : RightG g := by
  unfold checkG at h
  split at h
  · simp at h
  rename_i h0
  split at h
  · simp at h
  rename_i h10
  split at h
  · rename_i h1; exact absurd h h1
  rename_i h1
  split at h
  · simp at h
  rename_i h120
  obtain ⟨a1, a2, a3⟩ := chk1_all (by simpa using h1)
  rw [a3] at h120
  refine ⟨by omega, by omega, by omega, fun r hr => (a1 r hr).1, fun j r hj => by rw [a2 j r hj, Nat.zero_add], fun r hr => (a1 r hr).2, fun r hr => ?_⟩
  have hc := (a1 r hr).2
  refine rt_of r.2 ⟨0, 1, hc⟩ fun s hs => chk2_all h r hr s ?_
  unfold refsC
  rw [if_pos hc]
  exact (mem_refsE _ _).2 hs
theorem fits_of {g : List Rl} (h : RightG g) : Fits g (factsG g) :=
  ⟨facts_len g, fun i r hr => by rw [facts_fix g i (getElem?_lt hr)]; unfold nxF; rw [hr], h.rt⟩

/-! it comes to an end -/
def EndsAt (g : List Rl) (s : List UInt8) (e : Ex) (p : Nat) : Prop := ∃ n o, ev g s n e p = some o
def EndsR (g : List Rl) (s : List UInt8) (e : Ex) (p : Nat) : Prop := ∃ n o, evR g s n e p = some o
structure GoodE (g : List Rl) (fs : List Fa) (e : Ex) : Prop where
  rt : Rt g e
  noloop : loopsE g fs e = false
theorem loopsEs_mem {g : List Rl} {fs : List Fa} : ∀ {ks : List Ex}, loopsEs g fs ks = false → ∀ e ∈ ks, loopsE g fs e = false
  | [], _ => fun e he => by cases he
  | x :: xs, h => fun e he => by
    rw [loopsEs, Bool.or_eq_false_iff] at h
    rcases List.mem_cons.1 he with rfl | he
    · exact h.1
    · exact loopsEs_mem h.2 e he
theorem GoodE.kids {g : List Rl} {fs : List Fa} {k a b c d : Int} {t : ByteArray} {ks : List Ex} (h : GoodE g fs (.mk k a b c d t ks)) : (∀ e ∈ ks, GoodE g fs e) ∧ fitB k a b c d t.data.toList ks.length = true ∧ (k = 4 → 0 ≤ fnd g t.data.toList) ∧
    (k = 7 ∨ k = 8 → ∀ e, ks = [e] → (ofE g fs e).e = false) := by
  have hl := h.noloop
  rw [loopsE, Bool.or_eq_false_iff] at hl
  cases h.rt with
  | mk _ _ _ _ _ _ _ hfit hname hkids =>
  refine ⟨fun e he => ⟨hkids e he, loopsEs_mem hl.2 e he⟩, hfit, hname, fun hk e he => ?_⟩
  subst he
  have := hl.1
  rw [ofEs, ofEs, kid0] at this
  rcases hk with rfl | rfl <;> simpa using this

section
variable {g : List Rl} {s : List UInt8} {fs : List Fa}
theorem ends_R (H : Fits g fs) {e : Ex} {p : Nat} (hp : p ≤ s.length) (hg : GoodE g fs e) (hne : (ofE g fs e).e = false) (h : EndsAt g s e p) (hout : ∀ q, p < q → q ≤ s.length → EndsR g s e q) : EndsR g s e p := by
  obtain ⟨n, o, he⟩ := h
  cases o with
  | none => exact ⟨n + 1, some p, by rw [evR_s, he]⟩
  | some to =>
    have ht := (told H n).1 e p _ hg.rt hp he
    have hgt : p < to := by
      rcases Nat.lt_or_ge p to with h | h
      · exact h
      · have := ht.2.2.1 (by have := ht.1; omega)
        rw [hne] at this
        cases this
    obtain ⟨m, o', hr⟩ := hout to hgt ht.2.1
    exact ⟨max n m + 1, o', by rw [evR_s, ev_le he (Nat.le_max_left _ _)]; exact evR_le hr (Nat.le_max_right _ _)⟩
theorem ends_S_gt (H : Fits g fs) {p : Nat} (hout : ∀ q, p < q → q ≤ s.length → ∀ e, GoodE g fs e → EndsAt g s e q) : ∀ (es : List Ex), (∀ e ∈ es, GoodE g fs e) → ∀ q, p < q → q ≤ s.length → ∃ n o, evS g s n es q = some o
  | [], _, q, _, _ => ⟨1, some q, by rw [evS_nil]⟩
  | e :: es, hes, q, h1, h2 => by
    obtain ⟨n, o, he⟩ := hout q h1 h2 e (hes e (by simp))
    cases o with
    | none => exact ⟨n + 1, none, by rw [evS_cons, he]⟩
    | some to =>
      have ht := (told H n).1 e q _ (hes e (by simp)).rt h2 he
      obtain ⟨m, o', hm⟩ := ends_S_gt H hout es (fun e he => hes e (by simp [he])) to (by have := ht.1; omega) ht.2.1
      exact ⟨max n m + 1, o', by rw [evS_cons, ev_le he (Nat.le_max_left _ _)]; exact evS_le hm (Nat.le_max_right _ _)⟩

theorem ends_step (H : Fits g fs) {p : Nat} (hp : p ≤ s.length) (hout : ∀ q, p < q → q ≤ s.length → ∀ e, GoodE g fs e → EndsAt g s e q ∧ ((ofE g fs e).e = false → EndsR g s e q))
    {kn : List Bool} (hkn : ∀ (i : Nat) (r : Rl), kn[i]? = some true → g[i]? = some r → EndsAt g s r.2 p) (e : Ex) : GoodE g fs e → soundE g fs kn e = true → EndsAt g s e p := by
  refine Ex.ind (P := fun e => GoodE g fs e → soundE g fs kn e = true → EndsAt g s e p) ?_ e
  intro k a b c d t ks ih hg hs
  obtain ⟨hkids, hfit, hname, hloop⟩ := hg.kids
  have hfc := fit_cases hfit
  rw [soundE] at hs
  by_cases k1 : k = 1
  · exact ⟨1, some p, by rw [ev_s, if_pos k1]⟩
  by_cases k2 : k = 2
  · exact ⟨1, _, by rw [ev_s, if_neg k1, if_pos k2]⟩
  by_cases k3 : k = 3
  · exact ⟨1, _, by rw [ev_s, if_neg k1, if_neg k2, if_pos k3]⟩
  by_cases k4 : k = 4
  · rw [if_pos k4] at hs
    obtain ⟨r, hr, _⟩ := fnd_at (hname k4)
    have hkt : kn[(fnd g t.data.toList).toNat]? = some true := by
      rw [List.getD_eq_getElem?_getD] at hs
      cases hh : kn[(fnd g t.data.toList).toNat]? with
      | none => rw [hh] at hs; cases hs
      | some b => rw [hh] at hs; simp at hs; rw [hs]
    obtain ⟨n, o, h⟩ := hkn _ r hkt hr
    exact ⟨n + 1, o, by rw [ev_s, if_neg k1, if_neg k2, if_neg k3, if_pos k4, hr]; exact h⟩
  rw [if_neg k4] at hs
  by_cases k5 : k = 5
  · rw [if_pos k5] at hs
    have : ∀ es : List Ex, (∀ e ∈ es, e ∈ ks) → soundS g fs kn es = true → ∃ n o, evS g s n es p = some o := by
      intro es
      induction es with
      | nil => intro _ _; exact ⟨1, some p, by rw [evS_nil]⟩
      | cons e es ihe =>
        intro hm hse
        rw [soundS] at hse
        split at hse
        · cases hse
        rename_i hse1
        obtain ⟨n, o, he⟩ := ih e (hm e (by simp)) (hkids e (hm e (by simp))) (by simpa using hse1)
        cases o with
        | none => exact ⟨n + 1, none, by rw [evS_cons, he]⟩
        | some to =>
          have ht := (told H n).1 e p _ (hkids e (hm e (by simp))).rt hp he
          have hrest : ∃ m o', evS g s m es to = some o' := by
            by_cases hpt : to = p
            · subst hpt
              have he' := ht.2.2.1 rfl
              rw [he', if_neg (by decide)] at hse
              exact ihe (fun e he => hm e (by simp [he])) hse
            · exact ends_S_gt H (fun q h1 h2 e he => (hout q h1 h2 e he).1) es (fun e he => hkids e (hm e (by simp [he]))) to (by have := ht.1; omega) ht.2.1
          obtain ⟨m, o', hm'⟩ := hrest
          exact ⟨max n m + 1, o', by rw [evS_cons, ev_le he (Nat.le_max_left _ _)]; exact evS_le hm' (Nat.le_max_right _ _)⟩
    obtain ⟨n, o, h⟩ := this ks (fun e he => he) hs
    exact ⟨n + 1, o, by rw [ev_s, if_neg k1, if_neg k2, if_neg k3, if_neg k4, if_pos k5]; exact h⟩
  rw [if_neg k5] at hs
  have hall : ∀ es : List Ex, soundA g fs kn es = true → ∀ e ∈ es, soundE g fs kn e = true := by
    intro es
    induction es with
    | nil => intro _ e he; cases he
    | cons e es ihe =>
      intro hse e' he'
      rw [soundA] at hse
      split at hse
      · cases hse
      rename_i hse1
      rcases List.mem_cons.1 he' with rfl | he'
      · simpa using hse1
      · exact ihe hse e' he'
  have hends : ∀ e ∈ ks, EndsAt g s e p := fun e he => ih e he (hkids e he) (hall ks hs e he)
  by_cases k6 : k = 6
  · have : ∀ es : List Ex, (∀ e ∈ es, e ∈ ks) → ∃ n o, evA g s n es p = some o := by
      intro es
      induction es with
      | nil => intro _; exact ⟨1, none, by rw [evA_nil]⟩
      | cons e es ihe =>
        intro hm
        obtain ⟨n, o, he⟩ := hends e (hm e (by simp))
        cases o with
        | some to => exact ⟨n + 1, some to, by rw [evA_cons, he]⟩
        | none =>
          obtain ⟨m, o', hm'⟩ := ihe (fun e he => hm e (by simp [he]))
          exact ⟨max n m + 1, o', by rw [evA_cons, ev_le he (Nat.le_max_left _ _)]; exact evA_le hm' (Nat.le_max_right _ _)⟩
    obtain ⟨n, o, h⟩ := this ks (fun e he => he)
    exact ⟨n + 1, o, by rw [ev_s, if_neg k1, if_neg k2, if_neg k3, if_neg k4, if_neg k5, if_pos k6]; exact h⟩
  have h7 : 7 ≤ k ∧ k ≤ 11 ∧ ks.length = 1 := by omega
  match ks, h7.2.2, hends, hkids, hloop with
  | [e0], _, hends, hkids, hloop =>
    obtain ⟨n, o, he⟩ := hends e0 (by simp)
    have hg0 := hkids e0 (by simp)
    have key : ∃ m o', evK g s m k e0 p = some o' := by
      by_cases k7 : k = 7
      · have hne := hloop (.inl k7) e0 rfl
        obtain ⟨m, o', hr⟩ := ends_R H hp hg0 hne ⟨n, o, he⟩ (fun q h1 h2 => (hout q h1 h2 e0 hg0).2 hne)
        exact ⟨m + 1, o', by rw [evK_s, if_pos k7]; exact hr⟩
      cases o with
      | none => exact ⟨n + 1, _, by rw [evK_s, if_neg k7, he]⟩
      | some to =>
        by_cases k8 : k = 8
        · have hne := hloop (.inr k8) e0 rfl
          have ht := (told H n).1 e0 p _ hg0.rt hp he
          have hgt : p < to := by
            rcases Nat.lt_or_ge p to with h | h
            · exact h
            · have := ht.2.2.1 (by have := ht.1; omega)
              rw [hne] at this
              cases this
          obtain ⟨m, o', hr⟩ := (hout to hgt ht.2.1 e0 hg0).2 hne
          exact ⟨max n m + 1, o', by rw [evK_s, if_neg k7, ev_le he (Nat.le_max_left _ _)]; simp only; rw [if_pos k8]; exact evR_le hr (Nat.le_max_right _ _)⟩
        · refine ⟨n + 1, if k = 9 then some to else if k = 10 then some p else none, ?_⟩
          rw [evK_s, if_neg k7, he]
          simp only
          rw [if_neg k8]
          split
          · rfl
          · split <;> rfl
    obtain ⟨m, o', hm⟩ := key
    exact ⟨m + 1, o', by rw [ev_s, if_neg k1, if_neg k2, if_neg k3, if_neg k4, if_neg k5, if_neg k6]; exact hm⟩

theorem sound_true {kn : List Bool} (hkn : ∀ i, i < g.length → kn[i]? = some true) (e : Ex) : Rt g e → soundE g fs kn e = true := by
  refine Ex.ind (P := fun e => Rt g e → soundE g fs kn e = true) ?_ e
  intro k a b c d t ks ih hR
  cases hR with
  | mk _ _ _ _ _ _ _ hfit hname hkids =>
  rw [soundE]
  by_cases k4 : k = 4
  · rw [if_pos k4]
    obtain ⟨r, hr, _⟩ := fnd_at (hname k4)
    rw [List.getD_eq_getElem?_getD, hkn _ (getElem?_lt hr)]
    rfl
  rw [if_neg k4]
  by_cases k5 : k = 5
  · rw [if_pos k5]
    have : ∀ es : List Ex, (∀ e ∈ es, e ∈ ks) → soundS g fs kn es = true := by
      intro es
      induction es with
      | nil => intro _; rw [soundS]
      | cons e es ihe =>
        intro hm
        rw [soundS, ih e (hm e (by simp)) (hkids e (hm e (by simp))), if_neg (by decide)]
        split
        · rfl
        · exact ihe fun e he => hm e (by simp [he])
    exact this ks fun e he => he
  rw [if_neg k5]
  have : ∀ es : List Ex, (∀ e ∈ es, e ∈ ks) → soundA g fs kn es = true := by
    intro es
    induction es with
    | nil => intro _; rw [soundA]
    | cons e es ihe =>
      intro hm
      rw [soundA, ih e (hm e (by simp)) (hkids e (hm e (by simp))), if_neg (by decide)]
      exact ihe fun e he => hm e (by simp [he])
  exact this ks fun e he => he

theorem badLoop_none : ∀ {l : List Rl} {i : Nat}, badLoop g fs l i = none → ∀ r ∈ l, loopsE g fs r.2 = false
  | [], _, _ => fun r hr => by cases hr
  | x :: xs, i, h => fun r hr => by
    unfold badLoop at h
    split at h
    · cases h
    · rename_i hx
      rcases List.mem_cons.1 hr with rfl | hr
      · simpa using hx
      · exact badLoop_none h r hr
theorem badLeft_none : ∀ {l : List Bool} {i : Nat}, badLeft l i = none → ∀ (j : Nat), j < l.length → l[j]? = some true
  | [], _, _ => fun j hj => by simp at hj
  | x :: xs, i, h => fun j hj => by
    unfold badLeft at h
    split at h
    · cases h
    · rename_i hx
      cases j with
      | zero => simp; simpa using hx
      | succ j => simp; have := badLeft_none h j (by simpa using hj); exact this
/-- a grammar that is well -/
structure WellG (g : List Rl) : Prop where
  right : RightG g
  noloop : ∀ r ∈ g, loopsE g (factsG g) r.2 = false
  known : ∀ i, i < g.length → (knownG g (factsG g))[i]? = some true
theorem known_len : (knownG g fs).length = g.length := by
  unfold knownG
  rw [(grow_keeps (nx := nxB g fs) (P := fun _ => True) (fun _ _ _ _ _ => trivial) _ _ trivial).2]
  simp
theorem well_of (h : (wellG g).2 = 0) : WellG g := by
  unfold wellG at h
  split at h
  · rename_i hc; exact absurd h hc
  rename_i hc
  split at h
  · simp at h
  rename_i hl
  split at h
  · simp at h
  rename_i hk
  exact ⟨right_of (by simpa using hc), badLoop_none hl, fun i hi => badLeft_none hk i (by rw [known_len]; exact hi)⟩

theorem ends_all (W : WellG g) : ∀ (m p : Nat), s.length - p = m → p ≤ s.length → ∀ e, GoodE g (factsG g) e → EndsAt g s e p ∧ ((ofE g (factsG g) e).e = false → EndsR g s e p) := by
  intro m
  induction m using Nat.strongRecOn with
  | _ m ih =>
    intro p hm hp
    have H := fits_of W.right
    have hout : ∀ q, p < q → q ≤ s.length → ∀ e, GoodE g (factsG g) e → EndsAt g s e q ∧ ((ofE g (factsG g) e).e = false → EndsR g s e q) := fun q h1 h2 => ih (s.length - q) (by omega) q rfl h2
    have hrules : ∀ (i : Nat) (r : Rl), (knownG g (factsG g))[i]? = some true → g[i]? = some r → EndsAt g s r.2 p := by
      refine (grow_keeps (nx := nxB g (factsG g)) (P := fun kn => kn.length = g.length ∧ ∀ (i : Nat) (r : Rl), kn[i]? = some true → g[i]? = some r → EndsAt g s r.2 p) (fun kn i h hi _ => ⟨by simp; exact h.1, fun j r hj hr => ?_⟩) _ _ ⟨by simp, fun i r hi _ => ?_⟩).1.2
      · by_cases hij : i = j
        · subst hij
          rw [List.getElem?_set_self hi] at hj
          unfold nxB at hj
          rw [hr] at hj
          injection hj with hj
          have hmem := List.mem_of_getElem? hr
          exact ends_step H hp hout h.2 r.2 ⟨W.right.rt r hmem, W.noloop r hmem⟩ hj
        · rw [List.getElem?_set_ne hij] at hj
          exact h.2 j r hj hr
      · rw [List.getElem?_replicate] at hi
        split at hi
        · injection hi with hi; cases hi
        · cases hi
    intro e he
    have h1 := ends_step H hp hout hrules e he (sound_true W.known e he.rt)
    exact ⟨h1, fun hne => ends_R H hp he hne h1 fun q hq1 hq2 => (hout q hq1 hq2 e he).2 hne⟩
theorem ends (W : WellG g) {p : Nat} (hp : p ≤ s.length) {e : Ex} (he : GoodE g (factsG g) e) : EndsAt g s e p := (ends_all W _ p rfl hp e he).1
theorem WellG.good (W : WellG g) {r : Rl} (hr : r ∈ g) : GoodE g (factsG g) r.2 := ⟨W.right.rt r hr, W.noloop r hr⟩
end
end Go.Proofs.YtkmcnekjimobhaaDoor
namespace Go.Proofs.YtkmcnekjimobhaaDoor

theorem dd_small {u : Nat} (h : u < 10) : Lib.decDigits u = [UInt8.ofNat (48 + u)] := by rw [Lib.decDigits, dif_pos h]
theorem dd_big {u : Nat} (h : ¬ u < 10) : Lib.decDigits u = Lib.decDigits (u / 10) ++ [UInt8.ofNat (48 + u % 10)] := by rw [Lib.decDigits, dif_neg h]
theorem dig_nat {d : Nat} (h : d < 10) : (UInt8.ofNat (48 + d)).toNat = 48 + d := by
  rw [UInt8.toNat_ofNat']
  omega
end Go.Proofs.YtkmcnekjimobhaaDoor
namespace Go.Proofs.YtkmcnekjimobhaaDoor

theorem trAll_appC : ∀ a b : List Tr, trAll (a ++ b) = trAll a + trAll b
  | [], b => by simp [trAll]
  | t :: a, b => by simp only [List.cons_append, trAll, trAll_appC a b]; omega
theorem trJ_exC (g : List Rl) (s : List UInt8) (n : Nat) (k a b c d : Int) (t : ByteArray) (ks : List Ex) (p : Nat) : trJ g s (n + 1) (.ex (.mk k a b c d t ks)) p =
    if k = 1 ∨ k = 2 ∨ k = 3 then []
    else if k = 4 then (match g[(fnd g t.data.toList).toNat]? with
      | some r => (match evJ g s n (.ex r.2) p with
        | some (some q) => [.mk (fnd g t.data.toList).toNat p q (trJ g s n (.ex r.2) p)]
        | _ => [])
      | none => [])
    else if k = 5 then trJ g s n (.seq ks) p
    else if k = 6 then trJ g s n (.alt ks) p
    else (match ks with
      | [] => []
      | e :: _ => trJ g s n (.kid k e) p) := rfl
/-- no more trees than steps -/
theorem tr_cost (g : List Rl) (s : List UInt8) : ∀ (n : Nat) (j : Job) (p : Nat), trAll (trJ g s n j p) ≤ cost g s n j p ∧ (∀ e, j = .ex e → evJ g s n j p ≠ none → trAll (trJ g s n j p) + 1 ≤ cost g s n j p) := by
  intro n
  induction n with
  | zero =>
    intro j p
    refine ⟨by rw [trJ]; simp [trAll], fun e he h => ?_⟩
    exact absurd (by rw [evJ]) h
  | succ n ih =>
    have hs : ∀ j p, trAll (trJ g s n j p) ≤ cost g s n j p := fun j p => (ih j p).1
    intro j p
    cases j with
    | ex e =>
      have key : trAll (trJ g s (n + 1) (.ex e) p) + 1 ≤ cost g s (n + 1) (.ex e) p := by
        cases e with
        | mk k a b c d t ks =>
        rw [trJ_exC, cost_ex]
        by_cases h1 : k = 1 ∨ k = 2 ∨ k = 3
        · rw [if_pos h1, if_pos h1]; simp [trAll]
        rw [if_neg h1, if_neg h1]
        by_cases h4 : k = 4
        · rw [if_pos h4, if_pos h4]
          cases hg : g[(fnd g t.data.toList).toNat]? with
          | none => simp [trAll]
          | some r =>
            simp only
            have h2 := ih (.ex r.2) p
            cases he : evJ g s n (.ex r.2) p with
            | none => simp only [trAll]; omega
            | some o =>
              cases o with
              | none => simp only [trAll]; omega
              | some q =>
                have h3 := h2.2 r.2 rfl (by rw [he]; simp)
                simp only [trAll, trNodes]
                omega
        rw [if_neg h4, if_neg h4]
        by_cases h5 : k = 5
        · rw [if_pos h5, if_pos h5]
          have := hs (.seq ks) p
          omega
        rw [if_neg h5, if_neg h5]
        by_cases h6 : k = 6
        · rw [if_pos h6, if_pos h6]
          have := hs (.alt ks) p
          omega
        rw [if_neg h6, if_neg h6]
        cases ks with
        | nil => simp [trAll]
        | cons x l =>
          have := hs (.kid k x) p
          simp only
          omega
      exact ⟨by omega, fun _ _ _ => key⟩
    | kid k e =>
      refine ⟨?_, fun _ h _ => by cases h⟩
      rw [trJ, cost]
      have he := hs (.ex e) p
      by_cases h7 : k = 7
      · rw [if_pos h7, if_pos h7]; exact hs _ _
      rw [if_neg h7, if_neg h7]
      by_cases h8 : k = 8
      · rw [if_pos h8]
        cases evJ g s n (.ex e) p with
        | none => simp [trAll]
        | some o =>
          cases o with
          | none => simp [trAll]
          | some q =>
            have := hs (.rep e) q
            simp only [trAll_appC]
            rw [if_pos h8]
            omega
      rw [if_neg h8]
      by_cases h9 : k = 9
      · rw [if_pos h9]
        cases evJ g s n (.ex e) p with
        | none => simp [trAll]
        | some o =>
          cases o with
          | none => simp [trAll]
          | some q =>
            simp only
            rw [if_neg h8]
            exact he
      · rw [if_neg h9]; simp [trAll]
    | seq es =>
      refine ⟨?_, fun _ h _ => by cases h⟩
      cases es with
      | nil => rw [trJ]; simp [trAll]
      | cons x l =>
        rw [trJ, cost]
        have he := hs (.ex x) p
        cases evJ g s n (.ex x) p with
        | none => simp [trAll]
        | some o =>
          cases o with
          | none => simp [trAll]
          | some q =>
            have := hs (.seq l) q
            simp only [trAll_appC]
            omega
    | alt es =>
      refine ⟨?_, fun _ h _ => by cases h⟩
      cases es with
      | nil => rw [trJ]; simp [trAll]
      | cons x l =>
        rw [trJ, cost]
        have he := hs (.ex x) p
        cases evJ g s n (.ex x) p with
        | none => simp [trAll]
        | some o =>
          cases o with
          | none =>
            have := hs (.alt l) p
            simp only
            omega
          | some q => exact he
    | rep e =>
      refine ⟨?_, fun _ h _ => by cases h⟩
      rw [trJ, cost]
      have he := hs (.ex e) p
      cases evJ g s n (.ex e) p with
      | none => simp [trAll]
      | some o =>
        cases o with
        | none => simp [trAll]
        | some q =>
          have := hs (.rep e) q
          simp only [trAll_appC]
          omega

/-! the text of a tree -/
mutual
def txI : Tr → List UInt8
  | .mk r f u ks => Lib.itoa r ++ [58] ++ Lib.itoa f ++ [45] ++ Lib.itoa u ++ txL ks true ++ (if ks.length = 0 then [] else [41])
def txL : List Tr → Bool → List UInt8
  | [], _ => []
  | t :: ts, b => (if b then 40 else 32) :: (txI t ++ txL ts false)
end
mutual
/-- its numbers are i64 -/
def t64 : Tr → Prop
  | .mk r f u ks => (I64 r ∧ I64 f ∧ I64 u) ∧ t64L ks
def t64L : List Tr → Prop
  | [] => True
  | t :: ts => t64 t ∧ t64L ts
end
theorem dig_count {d : Nat} (h : d < 10) : [UInt8.ofNat (48 + d)].count 58 = 0 := by
  have : UInt8.ofNat (48 + d) ≠ 58 := fun e => by
    have h1 := congrArg UInt8.toNat e
    rw [dig_nat h] at h1
    simp at h1
    omega
  rw [List.count_eq_zero]
  simp only [List.mem_singleton]
  exact fun e => this e.symm
theorem dd_count (u : Nat) : (Lib.decDigits u).count 58 = 0 := by
  induction u using Nat.strongRecOn with
  | _ u ih =>
    by_cases h : u < 10
    · rw [dd_small h]; exact dig_count h
    · rw [dd_big h, List.count_append, ih (u / 10) (by omega), dig_count (by omega)]
theorem itoa_count (n : Int) : (Lib.itoa n).count 58 = 0 := by
  unfold Lib.itoa
  split
  · rw [List.count_cons, dd_count]; rfl
  · exact dd_count _
mutual
theorem tx_count : ∀ t : Tr, (txI t).count 58 = trNodes t
  | .mk r f u ks => by
    rw [txI, trNodes]
    simp only [List.count_append, itoa_count, txL_count ks true]
    have h1 : [(58 : UInt8)].count 58 = 1 := by decide
    have h2 : [(45 : UInt8)].count 58 = 0 := by decide
    have h3 : (if ks.length = 0 then [] else [(41 : UInt8)]).count 58 = 0 := by split <;> decide
    rw [h1, h2, h3]
    omega
theorem txL_count : ∀ (ts : List Tr) (b : Bool), (txL ts b).count 58 = trAll ts
  | [], _ => by rw [txL, trAll]; rfl
  | t :: ts, b => by
    rw [txL, trAll, List.count_cons, List.count_append, tx_count t, txL_count ts false]
    have h : ((if b then (40 : UInt8) else 32) == 58) = false := by cases b <;> decide
    rw [h]
    simp
end
theorem itoa_21 {n : Int} (h : I64 n) : (Lib.itoa n).length ≤ 21 := Lib.itoa_length_le n h.1 h.2
mutual
theorem tx_len : ∀ t : Tr, t64 t → (txI t).length + 1 ≤ 68 * trNodes t
  | .mk r f u ks, h => by
    rw [t64] at h
    have h1 := itoa_21 h.1.1
    have h2 := itoa_21 h.1.2.1
    have h3 := itoa_21 h.1.2.2
    have h4 := txL_len ks true h.2
    have h5 : (if ks.length = 0 then [] else [(41 : UInt8)]).length ≤ 1 := by split <;> simp
    rw [txI, trNodes]
    simp only [List.length_append, List.length_cons, List.length_nil]
    omega
theorem txL_len : ∀ (ts : List Tr) (b : Bool), t64L ts → (txL ts b).length ≤ 68 * trAll ts
  | [], _, _ => by rw [txL]; simp
  | t :: ts, b, h => by
    rw [t64L] at h
    have h1 := tx_len t h.1
    have h2 := txL_len ts false h.2
    rw [txL, trAll]
    simp only [List.length_append, List.length_cons]
    omega
end
def trTo0 : Tr → Int
  | .mk _ _ u _ => u
mutual
theorem nest64 {g : List Rl} {s : List UInt8} (hg : g.length ≤ 10) : ∀ t : Tr, NestT g s t → (∃ q : Nat, trTo0 t = q ∧ q ≤ 60) → t64 t
  | .mk r f u ks, h, hq => by
    obtain ⟨q', e, hq⟩ := hq
    cases h with
    | mk i p q r n _ hr he hL =>
      have hi := getElem?_lt hr
      have hpq := hL.le
      simp only [trTo0] at e
      rw [t64]
      unfold I64
      exact ⟨⟨by omega, by omega, by omega⟩, nestL64 hg ks hL (by omega)⟩
theorem nestL64 {g : List Rl} {s : List UInt8} (hg : g.length ≤ 10) : ∀ (ts : List Tr) {p q : Nat}, NestL g s p q ts → q ≤ 60 → t64L ts
  | [], _, _, _, _ => by rw [t64L]; trivial
  | .mk r f u ks :: ts, p, q, h, hq => by
    cases h with
    | cons _ _ i f u _ _ h1 h2 h3 h4 =>
      have := h4.le
      rw [t64L]
      exact ⟨nest64 hg _ h3 ⟨u, rfl, by omega⟩, nestL64 hg ts h4 hq⟩
end
end Go.Proofs.YtkmcnekjimobhaaDoor
namespace Go.Proofs.YtkmcnekjimobhaaDoor
open Go.RowKit

/-- an event: kind, rule, at -/
abbrev Ev := Int × Int × Int
theorem trAll_take : ∀ (ks : List Tr) (j : Nat), trAll (ks.take j) ≤ trAll ks
  | [], j => by simp [trAll]
  | t :: ks, 0 => by simp [trAll]
  | t :: ks, j + 1 => by
    rw [List.take_succ_cons, trAll, trAll]
    have := trAll_take ks j
    omega

set_option maxRecDepth 100000 in
theorem tcount_any (t : Tr) : ∀ (cs : List Value) (w : World) (S : Nat → Prop), TrIs w S t cs → (∀ b, S b → b < w.heap.size) → trNodes t ≤ 1099511627776 →
    Calls Tryd.prog 8 #[.agg cs.toArray] w fun e w' => e = .returned (.int .i64 (trNodes t)) ∧ Below w.heap.size w w' := by
  refine Tr.ind (P := fun t => ∀ (cs : List Value) (w : World) (S : Nat → Prop), TrIs w S t cs → (∀ b, S b → b < w.heap.size) → trNodes t ≤ 1099511627776 →
    Calls Tryd.prog 8 #[.agg cs.toArray] w fun e w' => e = .returned (.int .i64 (trNodes t)) ∧ Below w.heap.size w w') ?_ t
  intro r f u ks ih cs w S ht hS hsz
  rw [trNodes] at hsz ⊢
  have hlen := trAll_len ks
  have IH := Lib.hid ih
  cases ht with
  | mk _ _ _ _ A cp row hl hm hb hr hc =>
  have HRow := Lib.hid hr
  have HC := Lib.hid hc
  have HBk := Lib.hid hb
  have MEM := Lib.hid (trAll_mem ks)
  clear ih hr hc hb
  go_enter Tryd.func8, Tryd.ntmps8
  go_wp2
  go_loopw [3, 5, 9] (fun n _ i wr => ∃ j N : Nat, j ≤ ks.length ∧ i = .int .i64 j ∧ n = .int .i64 N ∧ Hid (N + trAll (ks.drop j) = 1 + trAll ks) ∧ N ≤ 1099511627776 ∧ Below w.heap.size w wr) (fun _ _ i _ => ks.length - (intOf i).toNat)
  case atStart => exact ⟨0, 1, by omega, rfl, rfl, rfl, by omega, (by repeat (first | exact Below.refl _ _ | assumption | refine Below.drew ?_ | refine below_drewN ?_ _ | refine Below.alloc ?_ (by first | omega | (simp; omega) | simp) _ | refine Below.setCell ?_ (by first | omega | (simp; omega) | simp) _))⟩
  case round =>
    obtain ⟨j, N, hj, rfl, rfl, HN, hN, hwr⟩ := hrel
    by_cases hjk : j < ks.length
    · have HD : Hid (trAll (ks.drop j) = trNodes ks[j] + trAll (ks.drop (j + 1))) := by
        show _ = _
        rw [List.drop_eq_getElem_cons hjk, trAll]
      have hej : ks[j]? = some ks[j] := List.getElem?_eq_getElem hjk
      generalize ks[j] = ej at hej HD
      obtain ⟨ad, rfl, hab⟩ := HBk.out (by omega)
      have hT := (HRow.out j ej hej).keep (fun _ h => h) (fun p hp => hwr.cell (hS _ hp))
      have hcj := HC.out j ej ad hej rfl
      have hmem := List.mem_of_getElem? hej
      generalize row j = rj at hT hcj
      cases ej with
      | mk r' f' u' ks' =>
      have hT2 := hT
      cases hT with
      | mk _ _ _ _ A' cp' row' hl' hm' hb' hr' hc' =>
      have hcc : ∀ i v, [Value.int .i64 r', .int .i64 f', .int .i64 u', .slice A' ks'.length cp'][i]? = some v → wr.cell? ((ad.add (j * 4)).add i) = some v := by
        intro i v hv
        rw [hwr.cell (by rw [add_block, add_block]; exact hS _ hab)]
        exact hcj i v hv
      have e0 : wr.cell? (ad.add (j * 4)) = some (.int .i64 r') := hcc 0 _ rfl
      have e1 : wr.cell? ⟨(ad.add (j * 4)).block, (ad.add (j * 4)).off + 1, none⟩ = some (.int .i64 f') := hcc 1 _ rfl
      have e2 : wr.cell? ⟨(ad.add (j * 4)).block, (ad.add (j * 4)).off + 2, none⟩ = some (.int .i64 u') := hcc 2 _ rfl
      have e3 : wr.cell? ⟨(ad.add (j * 4)).block, (ad.add (j * 4)).off + 3, none⟩ = some (.slice A' ks'.length cp') := hcc 3 _ rfl
      clear hcc hcj hej hr' hc' hb'
      have hwz := hwr.size
      have hk1 := MEM.out _ hmem
      have hcall : ∀ o : Obj, Calls Tryd.prog 8 #[.agg #[.int .i64 r', .int .i64 f', .int .i64 u', .slice A' ks'.length cp']] (wr.alloc o) fun e w' => e = .returned (.int .i64 (trNodes (.mk r' f' u' ks'))) ∧ Below (wr.alloc o).heap.size (wr.alloc o) w' := fun o =>
        IH.out _ hmem _ (wr.alloc o) S (hT2.keep (fun _ h => h) (fun p hp => World.cell?_alloc_lt _ _ _ (by have := hS _ hp; omega))) (fun b h => by have := hS _ h; simp; omega) (by omega)
      have HCall := Lib.hid hcall
      have hN2 : N + trNodes (.mk r' f' u' ks') + trAll (ks.drop (j + 1)) = 1 + trAll ks := by have h1 := HN.out; have h2 := HD.out; omega
      have HN2 := Lib.hid hN2
      have hN3 : N + trNodes (.mk r' f' u' ks') ≤ 1099511627776 := by omega
      clear hcall hT2 hN2 HD hk1
      generalize trNodes (.mk r' f' u' ks') = M at HCall HN2 hN3
      go_wp2_with fail
      refine (HCall.out _).mono ?_
      rintro e w2 ⟨rfl, hb2⟩
      have hw2 : Below w.heap.size w w2 := Below.trans (by repeat (first | exact Below.refl _ _ | assumption | refine Below.drew ?_ | refine below_drewN ?_ _ | refine Below.alloc ?_ (by first | omega | (simp; omega) | simp) _ | refine Below.setCell ?_ (by first | omega | (simp; omega) | simp) _)) (hb2.mono (by first | omega | (simp; omega) | simp))
      clear hb2
      go_wp2
      go_roundw
      case rel => exact ⟨j + 1, N + M, by omega, by go_num, by go_num, HN2, hN3, hw2⟩
      case measure => simp [intOf]; omega
    · obtain rfl : j = ks.length := by omega
      have HN2 : Hid (N = 1 + trAll ks) := by
        have h1 := HN.out
        rw [List.drop_length, trAll] at h1
        exact h1
      go_wp2
      go_ret
      exact ⟨ret_int (by rw [HN2.out]), hwr⟩

end Go.Proofs.YtkmcnekjimobhaaDoor
namespace Go.Proofs.YtkmcnekjimobhaaDoor
open Go.RowKit

/-- a slice of trees that can be read in blocks of S -/
def Kids (w : World) (S : Nat → Prop) (ks : List Tr) (A : Option Addr) (n cp : Nat) : Prop :=
  n = ks.length ∧ n ≤ cp ∧ cp ≤ maxLen ∧ (0 < n → ∃ ad : Addr, A = some ad ∧ S ad.block) ∧
  ∃ row : Nat → List Value, (∀ i t, ks[i]? = some t → TrIs w S t (row i)) ∧ (∀ i t ad, ks[i]? = some t → A = some ad → ∀ j u, (row i)[j]? = some u → w.cell? ((ad.add (i * 4)).add j) = some u)

theorem Kids.keep {w w' : World} {S S' : Nat → Prop} {ks : List Tr} {A : Option Addr} {n cp : Nat} (h : Kids w S ks A n cp) (hS : ∀ b, S b → S' b) (hk : ∀ p : Addr, S p.block → w'.cell? p = w.cell? p) : Kids w' S' ks A n cp := by
  obtain ⟨h1, h2, h3, h4, row, h5, h6⟩ := h
  refine ⟨h1, h2, h3, fun h0 => ?_, row, fun i t ht => (h5 i t ht).keep hS hk, fun i t ad ht hA j v hv => ?_⟩
  · obtain ⟨ad, e, hs⟩ := h4 h0
    exact ⟨ad, e, hS _ hs⟩
  · obtain ⟨ad', e', hs⟩ := h4 (by have := getElem?_lt ht; omega)
    rw [hA] at e'
    injection e' with e'
    subst e'
    rw [hk _ (by rw [add_block, add_block]; exact hs)]
    exact h6 i t ad ht hA j v hv
/-- the kid at place j, and its cells -/
theorem Kids.at_ {w : World} {S : Nat → Prop} {ks : List Tr} {A : Option Addr} {n cp j : Nat} (h : Kids w S ks A n cp) (hj : j < n) :
    ∃ ad r f u ks' A' cp', A = some ad ∧ S ad.block ∧ ks[j]? = some (.mk r f u ks') ∧ TrIs w S (.mk r f u ks') [.int .i64 r, .int .i64 f, .int .i64 u, .slice A' ks'.length cp'] ∧
      w.cell? (ad.add (j * 4)) = some (.int .i64 r) ∧ w.cell? ⟨(ad.add (j * 4)).block, (ad.add (j * 4)).off + 1, none⟩ = some (.int .i64 f) ∧
      w.cell? ⟨(ad.add (j * 4)).block, (ad.add (j * 4)).off + 2, none⟩ = some (.int .i64 u) ∧ w.cell? ⟨(ad.add (j * 4)).block, (ad.add (j * 4)).off + 3, none⟩ = some (.slice A' ks'.length cp') := by
  obtain ⟨h1, h2, h3, h4, row, h5, h6⟩ := h
  obtain ⟨ad, rfl, hs⟩ := h4 (by omega)
  have hej : ks[j]? = some (ks[j]'(by omega)) := List.getElem?_eq_getElem (by omega)
  generalize ks[j]'(by omega) = ej at hej
  have hT := h5 j ej hej
  have hcj := h6 j ej ad hej rfl
  generalize row j = rj at hT hcj
  cases ej with
  | mk r f u ks' =>
    have hT2 := hT
    cases hT with
    | mk _ _ _ _ A' cp' row' hl' hm' hb' hr' hc' =>
      exact ⟨ad, r, f, u, ks', A', cp', rfl, hs, hej, hT2, hcj 0 _ rfl, hcj 1 _ rfl, hcj 2 _ rfl, hcj 3 _ rfl⟩
theorem TrIs.kids {w : World} {S : Nat → Prop} {r f u : Int} {ks : List Tr} {cs : List Value} (h : TrIs w S (.mk r f u ks) cs) : ∃ A cp, cs = [.int .i64 r, .int .i64 f, .int .i64 u, .slice A ks.length cp] ∧ Kids w S ks A ks.length cp := by
  cases h with
  | mk _ _ _ _ A cp row hl hm hb hr hc => exact ⟨A, cp, rfl, rfl, hl, hm, hb, row, hr, hc⟩

end Go.Proofs.YtkmcnekjimobhaaDoor
namespace Go.Proofs.YtkmcnekjimobhaaDoor
open Go.Shelf Go.RowKit Go.Proofs
def bld_ren : Go.Shelf.Ren := ⟨fun | 166 => 24 | 240 => 37 | 276 => 57 | 169 => 13 | n => n, fun | 0 => 0 | 3 => 3 | 4 => 4 | 5 => 5 | 9 => 9 | 20 => 20 | 37 => 44 | 70 => 43 | 72 => 46 | 75 => 71 | 80 => 48 | 164 => 117 | 127 => 75 | n => n, fun | n => n⟩
theorem bld_166 : Go.Proofs.Lays.n166 Tryd.prog bld_ren := {
  mixed := by kernel_rfl
  f166 := Tryd.func24.trans (congrArg some (by kernel_rfl))
  f240 := Tryd.func37.trans (congrArg some (by kernel_rfl))
  f276 := Tryd.func57.trans (congrArg some (by kernel_rfl))
  t0 := Tryd.underlying0
  a0 := Tryd.isAgg0
  z0 := Tryd.sizeOf0
  v0 := Tryd.zeroValue0
  t3 := Tryd.underlying3
  a3 := Tryd.isAgg3
  z3 := Tryd.sizeOf3
  v3 := Tryd.zeroValue3
  t4 := Tryd.underlying4
  a4 := Tryd.isAgg4
  z4 := Tryd.sizeOf4
  v4 := Tryd.zeroValue4
  t9 := Tryd.underlying9
  a9 := Tryd.isAgg9
  z9 := Tryd.sizeOf9
  v9 := Tryd.zeroValue9
  t20 := Tryd.underlying20
  a20 := Tryd.isAgg20
  z20 := Tryd.sizeOf20
  v20 := Tryd.zeroValue20
  t37 := Tryd.underlying44
  a37 := Tryd.isAgg44
  z37 := Tryd.sizeOf44
  v37 := Tryd.zeroValue44
  t70 := Tryd.underlying43
  a70 := Tryd.isAgg43
  z70 := Tryd.sizeOf43
  v70 := Tryd.zeroValue43
  t72 := Tryd.underlying46
  a72 := Tryd.isAgg46
  z72 := Tryd.sizeOf46
  v72 := Tryd.zeroValue46
  t75 := Tryd.underlying71
  a75 := Tryd.isAgg71
  z75 := Tryd.sizeOf71
  v75 := Tryd.zeroValue71
  t164 := Tryd.underlying117
  a164 := Tryd.isAgg117
  z164 := Tryd.sizeOf117
  v164 := Tryd.zeroValue117 }
theorem bld_extra : Builder.Extra Tryd.prog bld_ren := {
  sizeBuilder := by kernel_rfl
  liesBuilder := by kernel_rfl
  t5 := Tryd.underlying5
  a5 := Tryd.isAgg5
  z5 := Tryd.sizeOf5
  v5 := Tryd.zeroValue5
  infoByte := by kernel_rfl
  cellsByte := by kernel_rfl
  sizeByte := by kernel_rfl
  neB5 := by decide }
theorem bld_169 : Go.Proofs.Lays.n169 Tryd.prog bld_ren := {
  mixed := by kernel_rfl
  f169 := Tryd.func13.trans (congrArg some (by kernel_rfl))
  t0 := Tryd.underlying0
  a0 := Tryd.isAgg0
  z0 := Tryd.sizeOf0
  v0 := Tryd.zeroValue0
  t3 := Tryd.underlying3
  a3 := Tryd.isAgg3
  z3 := Tryd.sizeOf3
  v3 := Tryd.zeroValue3
  t9 := Tryd.underlying9
  a9 := Tryd.isAgg9
  z9 := Tryd.sizeOf9
  v9 := Tryd.zeroValue9
  t37 := Tryd.underlying44
  a37 := Tryd.isAgg44
  z37 := Tryd.sizeOf44
  v37 := Tryd.zeroValue44
  t70 := Tryd.underlying43
  a70 := Tryd.isAgg43
  z70 := Tryd.sizeOf43
  v70 := Tryd.zeroValue43
  t72 := Tryd.underlying46
  a72 := Tryd.isAgg46
  z72 := Tryd.sizeOf46
  v72 := Tryd.zeroValue46
  t127 := Tryd.underlying75
  a127 := Tryd.isAgg75
  z127 := Tryd.sizeOf75
  v127 := Tryd.zeroValue75 }
/-- a builder that holds these bytes, above block B -/
abbrev Bld (B b : Nat) (l : List UInt8) (w : World) : Prop := Lib.IsBuilderF 46 5 B b (Lib.byteCells l) w
abbrev BldKept (b : Nat) (w w' : World) : Prop := Lib.OthersKept 5 (some b) w w'
theorem wrs_any (B b : Nat) (l : List UInt8) (s : ByteArray) (w : World) (h : Bld B b l w) (hlen : l.length + s.size ≤ 140737488355328) (hBw : B ≤ w.heap.size) :
    Calls Tryd.prog 24 #[.pointer (some ⟨b, 0, none⟩), .string s] w fun e w' => e = .returned (.tuple #[.int .i64 s.size, .nilIface]) ∧ Bld B b (l ++ s.data.toList) w' ∧ Below B w w' ∧ BldKept b w w' :=
  (Any.Builder_WriteString_k bld_166 bld_extra B b (Lib.byteCells l) s w h (by rw [Lib.byteCells_length]; exact hlen) hBw).mono fun e w' ⟨h1, h2, h3, h4⟩ => ⟨h1, .inr (by
    have e1 : Lib.byteCells l ++ Lib.strCells s = Lib.byteCells (l ++ s.data.toList) := by rw [Lib.strCells_eq]; unfold Lib.byteCells; rw [List.map_append]
    rw [← e1]
    exact h2), h3, h4⟩
theorem bstr_any (B b : Nat) (l : List UInt8) (w : World) (h : Bld B b l w) (hBw : B ≤ w.heap.size) :
    Calls Tryd.prog 13 #[.pointer (some ⟨b, 0, none⟩)] w fun e w' => e = .returned (.string ⟨l.toArray⟩) ∧ Bld B b l w' ∧ Below B w w' ∧ BldKept b w w' :=
  Any.Builder_String_any_k bld_169 bld_extra B b l w h hBw
end Go.Proofs.YtkmcnekjimobhaaDoor
namespace Go.Proofs.YtkmcnekjimobhaaDoor
open Go.Shelf
def sh_laysM171_ren : Go.Shelf.Ren := ⟨fun | 171 => 22 | 243 => 34 | 246 => 51 | 283 => 70 | 284 => 71 | 285 => 72 | 286 => 73 | 129 => 86 | 317 => 85 | 318 => 87 | 319 => 88 | 320 => 89 | 337 => 97 | 338 => 98 | n => n, fun | 3 => 3 | 9 => 9 | 2 => 2 | 4 => 4 | 171 => 133 | 0 => 0 | 53 => 60 | 37 => 44 | 5 => 5 | 173 => 136 | 212 => 156 | 51 => 130 | 20 => 20 | 213 => 157 | 46 => 108 | 232 => 170 | 233 => 171 | n => n, fun | 17 => 3 | 18 => 4 | 19 => 5 | n => n⟩
theorem sh_laysM171 : Go.Proofs.LaysM.n171 Tryd.prog sh_laysM171_ren := {
  mixed := by kernel_rfl
  f129 := Tryd.func86.trans (congrArg some (by kernel_rfl))
  f171 := Tryd.func22.trans (congrArg some (by kernel_rfl))
  f243 := Tryd.func34.trans (congrArg some (by kernel_rfl))
  f246 := Tryd.func51.trans (congrArg some (by kernel_rfl))
  f283 := Tryd.func70.trans (congrArg some (by kernel_rfl))
  f284 := Tryd.func71.trans (congrArg some (by kernel_rfl))
  f285 := Tryd.func72.trans (congrArg some (by kernel_rfl))
  f286 := Tryd.func73.trans (congrArg some (by kernel_rfl))
  f317 := Tryd.func85.trans (congrArg some (by kernel_rfl))
  f318 := Tryd.func87.trans (congrArg some (by kernel_rfl))
  f319 := Tryd.func88.trans (congrArg some (by kernel_rfl))
  f320 := Tryd.func89.trans (congrArg some (by kernel_rfl))
  f337 := Tryd.func97.trans (congrArg some (by kernel_rfl))
  f338 := Tryd.func98.trans (congrArg some (by kernel_rfl))
  t0 := Tryd.underlying0
  a0 := Tryd.isAgg0
  z0 := Tryd.sizeOf0
  v0 := Tryd.zeroValue0
  t2 := Tryd.underlying2
  a2 := Tryd.isAgg2
  z2 := Tryd.sizeOf2
  v2 := Tryd.zeroValue2
  t3 := Tryd.underlying3
  a3 := Tryd.isAgg3
  z3 := Tryd.sizeOf3
  v3 := Tryd.zeroValue3
  t4 := Tryd.underlying4
  a4 := Tryd.isAgg4
  z4 := Tryd.sizeOf4
  v4 := Tryd.zeroValue4
  t5 := Tryd.underlying5
  a5 := Tryd.isAgg5
  z5 := Tryd.sizeOf5
  v5 := Tryd.zeroValue5
  t9 := Tryd.underlying9
  a9 := Tryd.isAgg9
  z9 := Tryd.sizeOf9
  v9 := Tryd.zeroValue9
  t20 := Tryd.underlying20
  a20 := Tryd.isAgg20
  z20 := Tryd.sizeOf20
  v20 := Tryd.zeroValue20
  t37 := Tryd.underlying44
  a37 := Tryd.isAgg44
  z37 := Tryd.sizeOf44
  v37 := Tryd.zeroValue44
  t46 := Tryd.underlying108
  a46 := Tryd.isAgg108
  z46 := Tryd.sizeOf108
  v46 := Tryd.zeroValue108
  t51 := Tryd.underlying130
  a51 := Tryd.isAgg130
  z51 := Tryd.sizeOf130
  v51 := Tryd.zeroValue130
  t53 := Tryd.underlying60
  a53 := Tryd.isAgg60
  z53 := Tryd.sizeOf60
  v53 := Tryd.zeroValue60
  t171 := Tryd.underlying133
  a171 := Tryd.isAgg133
  z171 := Tryd.sizeOf133
  v171 := Tryd.zeroValue133
  t173 := Tryd.underlying136
  a173 := Tryd.isAgg136
  z173 := Tryd.sizeOf136
  v173 := Tryd.zeroValue136
  t212 := Tryd.underlying156
  a212 := Tryd.isAgg156
  z212 := Tryd.sizeOf156
  v212 := Tryd.zeroValue156
  t213 := Tryd.underlying157
  a213 := Tryd.isAgg157
  z213 := Tryd.sizeOf157
  t232 := Tryd.underlying170
  a232 := Tryd.isAgg170
  z232 := Tryd.sizeOf170
  v232 := Tryd.zeroValue170
  t233 := Tryd.underlying171
  a233 := Tryd.isAgg171
  z233 := Tryd.sizeOf171
  v233 := Tryd.zeroValue171
  g17 := by kernel_rfl
  g18 := by kernel_rfl
  g19 := by kernel_rfl
  i0 := by kernel_rfl
  i2 := by kernel_rfl
  i3 := by kernel_rfl
  i4 := by kernel_rfl
  i5 := by kernel_rfl
  i9 := by kernel_rfl
  i20 := by kernel_rfl
  i37 := by kernel_rfl
  i46 := by kernel_rfl
  i51 := by kernel_rfl
  i53 := by kernel_rfl
  i171 := by kernel_rfl
  i173 := by kernel_rfl
  i212 := by kernel_rfl
  i232 := by kernel_rfl
  i233 := by kernel_rfl
  m17 := by kernel_rfl
  m18 := by kernel_rfl
  m19 := by kernel_rfl }
open Go.RowKit Go.Sort Go.Lib in
theorem sh_strconv_Itoa (n : Int) (h0 : -9223372036854775808 ≤ n) (h1 : n ≤ 9223372036854775807) (w : World) (htab : Lib.TabIs Tryd.prog w "internal/strconv.uint64pow10" .u64 Lib.pow10Tab) :
    Calls Tryd.prog 22 #[.int .i64 n] w fun e w' => e = .returned (.string ⟨(Lib.itoa n).toArray⟩) ∧ ∃ k os, w' = grow (w.drewN k) os := Any.strconv_Itoa sh_laysM171 n h0 h1 w htab
end Go.Proofs.YtkmcnekjimobhaaDoor
namespace Go.Proofs.YtkmcnekjimobhaaDoor
open Go.RowKit

def itoaB (n : Int) : ByteArray := ⟨(Lib.itoa n).toArray⟩
theorem itoaB_size (n : Int) : (itoaB n).size = (Lib.itoa n).length := by show (Lib.itoa n).toArray.size = _; simp
abbrev TabP (w : World) : Prop := Lib.TabIs Tryd.prog w "internal/strconv.uint64pow10" .u64 Lib.pow10Tab
theorem gPow : Tryd.prog.globalNamed "internal/strconv.uint64pow10" = some 3 := by kernel_rfl
theorem TabP.below {B : Nat} {w w' : World} (h : TabP w) (hg : 3 < B) (hb : Below B w w') : TabP w' := by
  unfold TabP Lib.TabIs at h ⊢
  unfold World.var? at h ⊢
  rw [gPow] at h ⊢
  simp only [Option.bind_some] at h ⊢
  rw [hb.block _ hg]
  exact h
theorem grow_below (B : Nat) (w : World) (os : Array Obj) (h : B ≤ w.heap.size) : Below B w (Sort.grow w os) :=
  ⟨rfl, rfl, rfl, by simp [Sort.grow], fun k hk => by simp [Sort.grow, Array.getElem?_append, Nat.lt_of_lt_of_le hk h]⟩
theorem grow_below2 (w : World) (k : Nat) (os : Array Obj) : Below w.heap.size w (Sort.grow (w.drewN k) os) :=
  (below_drewN (Below.refl _ w) k).trans (grow_below _ _ _ (by simp))

theorem TabP.lt {w : World} (h : TabP w) : 3 < w.heap.size := by
  unfold TabP Lib.TabIs World.var? at h
  rw [gPow] at h
  simp only [Option.bind_some] at h
  rcases Nat.lt_or_ge 3 w.heap.size with h1 | h1
  · exact h1
  · rw [Array.getElem?_eq_none h1] at h
    cases h
theorem TabP.on {w w' : World} (h : TabP w) (hb : Below w.heap.size w w') : TabP w' := h.below h.lt hb
end Go.Proofs.YtkmcnekjimobhaaDoor
