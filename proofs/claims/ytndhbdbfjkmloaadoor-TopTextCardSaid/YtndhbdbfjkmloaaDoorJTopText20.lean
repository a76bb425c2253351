/- Ford: of a grammar that is well all comes to an end. Plain. A parser that remembers: plain. Its state, and what each of its calls makes of it, by fuel. A parser that remembers finds what the grammar means. Plain. -/
import Derived.Test.YtndhbdbfjkmloaaDoorJTopText19
import Derived.Test.YtndhbdbfjkmloaaDoorJTopText0
import Derived.Test.YtndhbdbfjkmloaaDoorJTopText1
namespace Go.Proofs.YtndhbdbfjkmloaaDoor
set_option maxRecDepth 100000
def nxB (g : List Rl) (fs : List Fa) (kn : List Bool) (i : Nat) : Bool := match g[i]? with
  | some r => soundE g fs kn r.2
  | none => false
def knownG (g : List Rl) (fs : List Fa) : List Bool := growG (nxB g fs) (wtL boOrd (List.replicate g.length false) + 1) (List.replicate g.length false)
def badLoop (g : List Rl) (fs : List Fa) : List Rl -> Nat -> Option Nat
  | [], _ => none
  | r :: rs, i => if loopsE g fs r.2 = true then some i else badLoop g fs rs (i + 1)
def badLeft : List Bool -> Nat -> Option Nat
  | [], _ => none
  | b :: bs, i => if b = false then some i else badLeft bs (i + 1)
def wellG (g : List Rl) : Int × Int :=
  if checkG g ≠ 0 then (0, checkG g) else match badLoop g (factsG g) g 0 with
    | some i => (i, 9)
    | none => match badLeft (knownG g (factsG g)) 0 with
      | some i => (i, 8)
      | none => (0, 0)
theorem looks_fit : ∀ (ks : List Ex) (n deep : Nat), (looks ks n deep).1 = 0 -> ∀ e ∈ ks, ∃ n' d', (lookN e n' d').1 = 0
  | [], _, _, _ => fun e he => by cases he
  | e :: es, n, deep, h => fun e' he' => by
    unfold looks at h
    split at h
    · rename_i h0
      rcases List.mem_cons.1 he' with rfl | he'
      · exact ⟨_, _, h0⟩
      · exact looks_fit es _ _ h e' he'
    · rename_i h0
      exact absurd h h0
theorem look_fit {k a b c d : Int} {t : ByteArray} {ks : List Ex} {n deep : Nat} (h : (lookN (.mk k a b c d t ks) n deep).1 = 0) : fitB k a b c d t.data.toList ks.length = true /\ ∀ e ∈ ks, ∃ n' d', (lookN e n' d').1 = 0 := by
  unfold lookN at h
  split at h
  · simp at h
  split at h
  · simp at h
  split at h
  · simp at h
  · rename_i h3
    exact ⟨by simpa using h3, looks_fit _ _ _ h⟩
theorem refStep_keeps {acc : List ByteArray} {p : Int × ByteArray} {s : ByteArray} (h : s ∈ acc) : s ∈ refStep acc p := by
  unfold refStep
  split
  · simp [h]
  · exact h
theorem mem_refsL : ∀ (l : List (Int × ByteArray)) (acc : List ByteArray) (s : ByteArray), s ∈ l.foldl refStep acc ↔ s ∈ acc \/ ((4 : Int), s) ∈ l
  | [], acc, s => by simp
  | p :: l, acc, s => by
    rw [List.foldl_cons, mem_refsL l _ s]
    constructor
    · rintro (h | h)
      · unfold refStep at h
        split at h
        · rename_i hp
          rcases List.mem_append.1 h with h | h
          · exact .inl h
          · simp at h
            refine .inr ?_
            rw [h, <- hp.1]
            simp
        · exact .inl h
      · exact .inr (List.mem_cons_of_mem _ h)
    · rintro (h | h)
      · exact .inl (refStep_keeps h)
      · rcases List.mem_cons.1 h with h | h
        · refine .inl ?_
          rw [<- h]
          unfold refStep
          by_cases hs : s ∈ acc
          · rw [if_neg (by simp [hs])]; exact hs
          · rw [if_pos ⟨rfl, hs⟩]; simp
        · exact .inr h
theorem mem_refsE (e : Ex) (s : ByteArray) : s ∈ refsE e ↔ ((4 : Int), s) ∈ preE e := by
  unfold refsE refsL
  rw [mem_refsL]
  simp
theorem mem_preEs {p : Int × ByteArray} : ∀ {ks : List Ex} {e : Ex}, e ∈ ks -> p ∈ preE e -> p ∈ preEs ks
  | [], e, he, _ => by cases he
  | x :: xs, e, he, hp => by
    rw [preEs]
    rcases List.mem_cons.1 he with rfl | he
    · exact List.mem_append_left _ hp
    · exact List.mem_append_right _ (mem_preEs he hp)
theorem rt_of {g : List Rl} (e : Ex) : (∃ n d, (lookN e n d).1 = 0) -> (∀ s, ((4 : Int), s) ∈ preE e -> 0 <= fnd g s.data.toList) -> Rt g e := by
  refine Ex.ind (P := fun e => (∃ n d, (lookN e n d).1 = 0) -> (∀ s, ((4 : Int), s) ∈ preE e -> 0 <= fnd g s.data.toList) -> Rt g e) ?_ e
  rintro k a b c d t ks ih ⟨n, dd, h⟩ hr
  obtain ⟨h1, h2⟩ := look_fit h
  refine .mk k a b c d t ks h1 (fun hk => hr t ?_) fun e he => ih e he (h2 e he) fun s hs => hr s ?_
  · rw [preE, hk]; simp
  · rw [preE]
    exact List.mem_cons_of_mem _ (mem_preEs he hs)
theorem known1_all {g : List Rl} : ∀ {l : List ByteArray}, known1 g l = true -> ∀ s ∈ l, 0 <= fnd g s.data.toList
  | [], _ => fun s hs => by cases hs
  | x :: xs, h => fun s hs => by
    unfold known1 at h
    split at h
    · cases h
    · rcases List.mem_cons.1 hs with rfl | hs
      · omega
      · exact known1_all h s hs
theorem chk2_all {g : List Rl} : ∀ {l : List Rl}, chk2 g l = 0 -> ∀ r ∈ l, ∀ s ∈ refsC r.2, 0 <= fnd g s.data.toList
  | [], _ => fun r hr => by cases hr
  | x :: xs, h => fun r hr => by
    unfold chk2 at h
    split at h
    · simp at h
    · rename_i hk
      rcases List.mem_cons.1 hr with rfl | hr
      · exact known1_all (by simpa using hk)
      · exact chk2_all h r hr
theorem chk1_all {g : List Rl} : ∀ {l : List Rl} {i all : Nat}, (chk1 g l i all).1 = 0 -> (∀ r ∈ l, nameB r.1.data.toList = true /\ checkE r.2 = 0) /\ (∀ (j : Nat) (r : Rl), l[j]? = some r -> fnd g r.1.data.toList = ((i + j : Nat) : Int)) /\ (chk1 g l i all).2 = all + (l.map fun r => nodes r.2).sum
  | [], i, all, _ => ⟨fun r hr => (by cases hr), fun j r h => (by simp at h), by simp [chk1]⟩
  | x :: xs, i, all, h => by
    unfold chk1 at h ⊢
    split at h
    · simp at h
    rename_i h1
    split at h
    · simp at h
    rename_i h2
    split at h
    · rename_i h3; exact absurd h h3
    rename_i h3
    obtain ⟨a1, a2, a3⟩ := chk1_all h
    rw [if_neg h1, if_neg h2, if_neg h3]
    refine ⟨fun r hr => ?_, fun j r hj => ?_, by rw [a3]; simp; omega⟩
    · rcases List.mem_cons.1 hr with rfl | hr
      · exact ⟨by simpa using h1, by simpa using h3⟩
      · exact a1 r hr
    · cases j with
      | zero =>
        simp at hj
        subst hj
        simpa using h2
      | succ j =>
        rw [a2 j r (by simpa using hj)]
        omega
structure RightG (g : List Rl) : Prop where
  pos : 0 < g.length
  ten : g.length <= 10
  nodes : (g.map fun r => nodes r.2).sum <= 120
  named : ∀ r ∈ g, nameB r.1.data.toList = true
  once : ∀ (j : Nat) (r : Rl), g[j]? = some r -> fnd g r.1.data.toList = (j : Int)
  body : ∀ r ∈ g, checkE r.2 = 0
  rt : ∀ r ∈ g, Rt g r.2
theorem right_of {g : List Rl} (h : checkG g = 0) : RightG g := by
  unfold checkG at h
  split at h
  · simp at h
  rename_i h0
  split at h
  · simp at h
  rename_i h10
  split at h
  · rename_i h1; exact absurd h h1
  rename_i h1
  split at h
  · simp at h
  rename_i h120
  obtain ⟨a1, a2, a3⟩ := chk1_all (by simpa using h1)
  rw [a3] at h120
  refine ⟨by omega, by omega, by omega, fun r hr => (a1 r hr).1, fun j r hj => by rw [a2 j r hj, Nat.zero_add], fun r hr => (a1 r hr).2, fun r hr => ?_⟩
  have hc := (a1 r hr).2
  refine rt_of r.2 ⟨0, 1, hc⟩ fun s hs => chk2_all h r hr s ?_
  unfold refsC
  rw [if_pos hc]
  exact (mem_refsE _ _).2 hs
theorem fits_of {g : List Rl} (h : RightG g) : Fits g (factsG g) :=
  ⟨facts_len g, fun i r hr => by rw [facts_fix g i (getElem?_lt hr)]; unfold nxF; rw [hr], h.rt⟩
def EndsAt (g : List Rl) (s : List UInt8) (e : Ex) (p : Nat) : Prop := ∃ n o, ev g s n e p = some o
def EndsR (g : List Rl) (s : List UInt8) (e : Ex) (p : Nat) : Prop := ∃ n o, evR g s n e p = some o
structure GoodE (g : List Rl) (fs : List Fa) (e : Ex) : Prop where
  rt : Rt g e
  noloop : loopsE g fs e = false
theorem loopsEs_mem {g : List Rl} {fs : List Fa} : ∀ {ks : List Ex}, loopsEs g fs ks = false -> ∀ e ∈ ks, loopsE g fs e = false
  | [], _ => fun e he => by cases he
  | x :: xs, h => fun e he => by
    rw [loopsEs, Bool.or_eq_false_iff] at h
    rcases List.mem_cons.1 he with rfl | he
    · exact h.1
    · exact loopsEs_mem h.2 e he
theorem GoodE.kids {g : List Rl} {fs : List Fa} {k a b c d : Int} {t : ByteArray} {ks : List Ex} (h : GoodE g fs (.mk k a b c d t ks)) : (∀ e ∈ ks, GoodE g fs e) /\ fitB k a b c d t.data.toList ks.length = true /\ (k = 4 -> 0 <= fnd g t.data.toList) /\
    (k = 7 \/ k = 8 -> ∀ e, ks = [e] -> (ofE g fs e).e = false) := by
  have hl := h.noloop
  rw [loopsE, Bool.or_eq_false_iff] at hl
  cases h.rt with
  | mk _ _ _ _ _ _ _ hfit hname hkids =>
  refine ⟨fun e he => ⟨hkids e he, loopsEs_mem hl.2 e he⟩, hfit, hname, fun hk e he => ?_⟩
  subst he
  have := hl.1
  rw [ofEs, ofEs, kid0] at this
  rcases hk with rfl | rfl <;> simpa using this
section
variable {g : List Rl} {s : List UInt8} {fs : List Fa}
theorem ends_R (H : Fits g fs) {e : Ex} {p : Nat} (hp : p <= s.length) (hg : GoodE g fs e) (hne : (ofE g fs e).e = false) (h : EndsAt g s e p) (hout : ∀ q, p < q -> q <= s.length -> EndsR g s e q) : EndsR g s e p := by
  obtain ⟨n, o, he⟩ := h
  cases o with
  | none => exact ⟨n + 1, some p, by rw [evR_s, he]⟩
  | some tq =>
    have ht := (told H n).1 e p _ hg.rt hp he
    have hgt : p < tq := by
      rcases Nat.lt_or_ge p tq with h | h
      · exact h
      · have := ht.2.2.1 (by have := ht.1; omega)
        rw [hne] at this
        cases this
    obtain ⟨m, o', hr⟩ := hout tq hgt ht.2.1
    exact ⟨max n m + 1, o', by rw [evR_s, ev_le he (Nat.le_max_left _ _)]; exact evR_le hr (Nat.le_max_right _ _)⟩
theorem ends_S_gt (H : Fits g fs) {p : Nat} (hout : ∀ q, p < q -> q <= s.length -> ∀ e, GoodE g fs e -> EndsAt g s e q) : ∀ (es : List Ex), (∀ e ∈ es, GoodE g fs e) -> ∀ q, p < q -> q <= s.length -> ∃ n o, evS g s n es q = some o
  | [], _, q, _, _ => ⟨1, some q, by rw [evS_nil]⟩
  | e :: es, hes, q, h1, h2 => by
    obtain ⟨n, o, he⟩ := hout q h1 h2 e (hes e (by simp))
    cases o with
    | none => exact ⟨n + 1, none, by rw [evS_cons, he]⟩
    | some tq =>
      have ht := (told H n).1 e q _ (hes e (by simp)).rt h2 he
      obtain ⟨m, o', hm⟩ := ends_S_gt H hout es (fun e he => hes e (by simp [he])) tq (by have := ht.1; omega) ht.2.1
      exact ⟨max n m + 1, o', by rw [evS_cons, ev_le he (Nat.le_max_left _ _)]; exact evS_le hm (Nat.le_max_right _ _)⟩
theorem ends_step (H : Fits g fs) {p : Nat} (hp : p <= s.length) (hout : ∀ q, p < q -> q <= s.length -> ∀ e, GoodE g fs e -> EndsAt g s e q /\ ((ofE g fs e).e = false -> EndsR g s e q))
    {kn : List Bool} (hkn : ∀ (i : Nat) (r : Rl), kn[i]? = some true -> g[i]? = some r -> EndsAt g s r.2 p) (e : Ex) : GoodE g fs e -> soundE g fs kn e = true -> EndsAt g s e p := by
  refine Ex.ind (P := fun e => GoodE g fs e -> soundE g fs kn e = true -> EndsAt g s e p) ?_ e
  intro k a b c d t ks ih hg hs
  obtain ⟨hkids, hfit, hname, hloop⟩ := hg.kids
  have hfc := fit_cases hfit
  rw [soundE] at hs
  by_cases k1 : k = 1
  · exact ⟨1, some p, by rw [ev_s, if_pos k1]⟩
  by_cases k2 : k = 2
  · exact ⟨1, _, by rw [ev_s, if_neg k1, if_pos k2]⟩
  by_cases k3 : k = 3
  · exact ⟨1, _, by rw [ev_s, if_neg k1, if_neg k2, if_pos k3]⟩
  by_cases k4 : k = 4
  · rw [if_pos k4] at hs
    obtain ⟨r, hr, _⟩ := fnd_at (hname k4)
    have hkt : kn[(fnd g t.data.toList).toNat]? = some true := by
      rw [List.getD_eq_getElem?_getD] at hs
      cases hh : kn[(fnd g t.data.toList).toNat]? with
      | none => rw [hh] at hs; cases hs
      | some b => rw [hh] at hs; simp at hs; rw [hs]
    obtain ⟨n, o, h⟩ := hkn _ r hkt hr
    exact ⟨n + 1, o, by rw [ev_s, if_neg k1, if_neg k2, if_neg k3, if_pos k4, hr]; exact h⟩
  rw [if_neg k4] at hs
  by_cases k5 : k = 5
  · rw [if_pos k5] at hs
    have : ∀ es : List Ex, (∀ e ∈ es, e ∈ ks) -> soundS g fs kn es = true -> ∃ n o, evS g s n es p = some o := by
      intro es
      induction es with
      | nil => intro _ _; exact ⟨1, some p, by rw [evS_nil]⟩
      | cons e es ihe =>
        intro hm hse
        rw [soundS] at hse
        split at hse
        · cases hse
        rename_i hse1
        obtain ⟨n, o, he⟩ := ih e (hm e (by simp)) (hkids e (hm e (by simp))) (by simpa using hse1)
        cases o with
        | none => exact ⟨n + 1, none, by rw [evS_cons, he]⟩
        | some tq =>
          have ht := (told H n).1 e p _ (hkids e (hm e (by simp))).rt hp he
          have hrest : ∃ m o', evS g s m es tq = some o' := by
            by_cases hpt : tq = p
            · subst hpt
              have he' := ht.2.2.1 rfl
              rw [he', if_neg (by decide)] at hse
              exact ihe (fun e he => hm e (by simp [he])) hse
            · exact ends_S_gt H (fun q h1 h2 e he => (hout q h1 h2 e he).1) es (fun e he => hkids e (hm e (by simp [he]))) tq (by have := ht.1; omega) ht.2.1
          obtain ⟨m, o', hm'⟩ := hrest
          exact ⟨max n m + 1, o', by rw [evS_cons, ev_le he (Nat.le_max_left _ _)]; exact evS_le hm' (Nat.le_max_right _ _)⟩
    obtain ⟨n, o, h⟩ := this ks (fun e he => he) hs
    exact ⟨n + 1, o, by rw [ev_s, if_neg k1, if_neg k2, if_neg k3, if_neg k4, if_pos k5]; exact h⟩
  rw [if_neg k5] at hs
  have hall : ∀ es : List Ex, soundA g fs kn es = true -> ∀ e ∈ es, soundE g fs kn e = true := by
    intro es
    induction es with
    | nil => intro _ e he; cases he
    | cons e es ihe =>
      intro hse e' he'
      rw [soundA] at hse
      split at hse
      · cases hse
      rename_i hse1
      rcases List.mem_cons.1 he' with rfl | he'
      · simpa using hse1
      · exact ihe hse e' he'
  have hends : ∀ e ∈ ks, EndsAt g s e p := fun e he => ih e he (hkids e he) (hall ks hs e he)
  by_cases k6 : k = 6
  · have : ∀ es : List Ex, (∀ e ∈ es, e ∈ ks) -> ∃ n o, evA g s n es p = some o := by
      intro es
      induction es with
      | nil => intro _; exact ⟨1, none, by rw [evA_nil]⟩
      | cons e es ihe =>
        intro hm
        obtain ⟨n, o, he⟩ := hends e (hm e (by simp))
        cases o with
        | some tq => exact ⟨n + 1, some tq, by rw [evA_cons, he]⟩
        | none =>
          obtain ⟨m, o', hm'⟩ := ihe (fun e he => hm e (by simp [he]))
          exact ⟨max n m + 1, o', by rw [evA_cons, ev_le he (Nat.le_max_left _ _)]; exact evA_le hm' (Nat.le_max_right _ _)⟩
    obtain ⟨n, o, h⟩ := this ks (fun e he => he)
    exact ⟨n + 1, o, by rw [ev_s, if_neg k1, if_neg k2, if_neg k3, if_neg k4, if_neg k5, if_pos k6]; exact h⟩
  have h7 : 7 <= k /\ k <= 11 /\ ks.length = 1 := by omega
  match ks, h7.2.2, hends, hkids, hloop with
  | [e0], _, hends, hkids, hloop =>
    obtain ⟨n, o, he⟩ := hends e0 (by simp)
    have hg0 := hkids e0 (by simp)
    have key : ∃ m o', evK g s m k e0 p = some o' := by
      by_cases k7 : k = 7
      · have hne := hloop (.inl k7) e0 rfl
        obtain ⟨m, o', hr⟩ := ends_R H hp hg0 hne ⟨n, o, he⟩ (fun q h1 h2 => (hout q h1 h2 e0 hg0).2 hne)
        exact ⟨m + 1, o', by rw [evK_s, if_pos k7]; exact hr⟩
      cases o with
      | none => exact ⟨n + 1, _, by rw [evK_s, if_neg k7, he]⟩
      | some tq =>
        by_cases k8 : k = 8
        · have hne := hloop (.inr k8) e0 rfl
          have ht := (told H n).1 e0 p _ hg0.rt hp he
          have hgt : p < tq := by
            rcases Nat.lt_or_ge p tq with h | h
            · exact h
            · have := ht.2.2.1 (by have := ht.1; omega)
              rw [hne] at this
              cases this
          obtain ⟨m, o', hr⟩ := (hout tq hgt ht.2.1 e0 hg0).2 hne
          exact ⟨max n m + 1, o', by rw [evK_s, if_neg k7, ev_le he (Nat.le_max_left _ _)]; simp only; rw [if_pos k8]; exact evR_le hr (Nat.le_max_right _ _)⟩
        · refine ⟨n + 1, if k = 9 then some tq else if k = 10 then some p else none, ?_⟩
          rw [evK_s, if_neg k7, he]
          simp only
          rw [if_neg k8]
          split
          · rfl
          · split <;> rfl
    obtain ⟨m, o', hm⟩ := key
    exact ⟨m + 1, o', by rw [ev_s, if_neg k1, if_neg k2, if_neg k3, if_neg k4, if_neg k5, if_neg k6]; exact hm⟩
theorem sound_true {kn : List Bool} (hkn : ∀ i, i < g.length -> kn[i]? = some true) (e : Ex) : Rt g e -> soundE g fs kn e = true := by
  refine Ex.ind (P := fun e => Rt g e -> soundE g fs kn e = true) ?_ e
  intro k a b c d t ks ih hR
  cases hR with
  | mk _ _ _ _ _ _ _ hfit hname hkids =>
  rw [soundE]
  by_cases k4 : k = 4
  · rw [if_pos k4]
    obtain ⟨r, hr, _⟩ := fnd_at (hname k4)
    rw [List.getD_eq_getElem?_getD, hkn _ (getElem?_lt hr)]
    rfl
  rw [if_neg k4]
  by_cases k5 : k = 5
  · rw [if_pos k5]
    have : ∀ es : List Ex, (∀ e ∈ es, e ∈ ks) -> soundS g fs kn es = true := by
      intro es
      induction es with
      | nil => intro _; rw [soundS]
      | cons e es ihe =>
        intro hm
        rw [soundS, ih e (hm e (by simp)) (hkids e (hm e (by simp))), if_neg (by decide)]
        split
        · rfl
        · exact ihe fun e he => hm e (by simp [he])
    exact this ks fun e he => he
  rw [if_neg k5]
  have : ∀ es : List Ex, (∀ e ∈ es, e ∈ ks) -> soundA g fs kn es = true := by
    intro es
    induction es with
    | nil => intro _; rw [soundA]
    | cons e es ihe =>
      intro hm
      rw [soundA, ih e (hm e (by simp)) (hkids e (hm e (by simp))), if_neg (by decide)]
      exact ihe fun e he => hm e (by simp [he])
  exact this ks fun e he => he
theorem badLoop_none : ∀ {l : List Rl} {i : Nat}, badLoop g fs l i = none -> ∀ r ∈ l, loopsE g fs r.2 = false
  | [], _, _ => fun r hr => by cases hr
  | x :: xs, i, h => fun r hr => by
    unfold badLoop at h
    split at h
    · cases h
    · rename_i hx
      rcases List.mem_cons.1 hr with rfl | hr
      · simpa using hx
      · exact badLoop_none h r hr
theorem badLeft_none : ∀ {l : List Bool} {i : Nat}, badLeft l i = none -> ∀ (j : Nat), j < l.length -> l[j]? = some true
  | [], _, _ => fun j hj => by simp at hj
  | x :: xs, i, h => fun j hj => by
    unfold badLeft at h
    split at h
    · cases h
    · rename_i hx
      cases j with
      | zero => simp; simpa using hx
      | succ j => simp; have := badLeft_none h j (by simpa using hj); exact this
structure WellG (g : List Rl) : Prop where
  right : RightG g
  noloop : ∀ r ∈ g, loopsE g (factsG g) r.2 = false
  known : ∀ i, i < g.length -> (knownG g (factsG g))[i]? = some true
theorem known_len : (knownG g fs).length = g.length := by
  unfold knownG
  rw [(grow_keeps (nx := nxB g fs) (P := fun _ => True) (fun _ _ _ _ _ => trivial) _ _ trivial).2]
  simp
theorem well_of (h : (wellG g).2 = 0) : WellG g := by
  unfold wellG at h
  split at h
  · rename_i hc; exact absurd h hc
  rename_i hc
  split at h
  · simp at h
  rename_i hl
  split at h
  · simp at h
  rename_i hk
  exact ⟨right_of (by simpa using hc), badLoop_none hl, fun i hi => badLeft_none hk i (by rw [known_len]; exact hi)⟩
theorem ends_all (W : WellG g) : ∀ (m p : Nat), s.length - p = m -> p <= s.length -> ∀ e, GoodE g (factsG g) e -> EndsAt g s e p /\ ((ofE g (factsG g) e).e = false -> EndsR g s e p) := by
  intro m
  induction m using Nat.strongRecOn with
  | _ m ih =>
    intro p hm hp
    have H := fits_of W.right
    have hout : ∀ q, p < q -> q <= s.length -> ∀ e, GoodE g (factsG g) e -> EndsAt g s e q /\ ((ofE g (factsG g) e).e = false -> EndsR g s e q) := fun q h1 h2 => ih (s.length - q) (by omega) q rfl h2
    have hrules : ∀ (i : Nat) (r : Rl), (knownG g (factsG g))[i]? = some true -> g[i]? = some r -> EndsAt g s r.2 p := by
      refine (grow_keeps (nx := nxB g (factsG g)) (P := fun kn => kn.length = g.length /\ ∀ (i : Nat) (r : Rl), kn[i]? = some true -> g[i]? = some r -> EndsAt g s r.2 p) (fun kn i h hi _ => ⟨by simp; exact h.1, fun j r hj hr => ?_⟩) _ _ ⟨by simp, fun i r hi _ => ?_⟩).1.2
      · by_cases hij : i = j
        · subst hij
          rw [List.getElem?_set_self hi] at hj
          unfold nxB at hj
          rw [hr] at hj
          injection hj with hj
          have hmem := List.mem_of_getElem? hr
          exact ends_step H hp hout h.2 r.2 ⟨W.right.rt r hmem, W.noloop r hmem⟩ hj
        · rw [List.getElem?_set_ne hij] at hj
          exact h.2 j r hj hr
      · rw [List.getElem?_replicate] at hi
        split at hi
        · injection hi with hi; cases hi
        · cases hi
    intro e he
    have h1 := ends_step H hp hout hrules e he (sound_true W.known e he.rt)
    exact ⟨h1, fun hne => ends_R H hp he hne h1 fun q hq1 hq2 => (hout q hq1 hq2 e he).2 hne⟩
theorem ends (W : WellG g) {p : Nat} (hp : p <= s.length) {e : Ex} (he : GoodE g (factsG g) e) : EndsAt g s e p := (ends_all W _ p rfl hp e he).1
theorem WellG.good (W : WellG g) {r : Rl} (hr : r ∈ g) : GoodE g (factsG g) r.2 := ⟨W.right.rt r hr, W.noloop r hr⟩
end
structure PS where
  seen : List ((Nat × Nat) × Option Nat)
  log : List (Nat × Nat × Option Nat)
  far : Int
  want : S4
  marks : List Nat
def recall (l : List ((Nat × Nat) × Option Nat)) (k : Nat × Nat) : Option (Option Nat) := (l.find? fun x => decide (x.1 = k)).map (·.2)
def noS : S4 := ⟨0, 0, 0, 0⟩
def oneS (c : Nat) : S4 := ⟨((rangeL c 1).getD 0 0 : Nat), ((rangeL c 1).getD 1 0 : Nat), ((rangeL c 1).getD 2 0 : Nat), ((rangeL c 1).getD 3 0 : Nat)⟩
def missS (σ : PS) (p : Nat) (w : S4) : PS :=
  if σ.far < (p : Int) then { σ with far := p, want := S4.map2 orU noS w }
  else if (p : Int) = σ.far then { σ with want := S4.map2 orU σ.want w } else σ
def alike (s : List UInt8) (p : Nat) (t : List UInt8) : Nat -> Nat -> Nat
  | 0, k => k
  | f + 1, k => if p + k < s.length /\ bt s (p + k) = bt t k then alike s p t f (k + 1) else k
def matchN (s : List UInt8) (p : Nat) (t : List UInt8) : Nat := alike s p t t.length 0
def firstN (g : List Rl) (i : Nat) : Nat := ((g.take i).map fun r => nodes r.2).sum
def markS (hook : Bool) (σ : PS) (n : Nat) (ok : Bool) : PS :=
  if hook then { σ with marks := σ.marks.set n (σ.marks.getD n 0 ||| (if ok then 1 else 2)) } else σ
inductive PJob where
  | node (e : Ex) (n : Nat)
  | try_ (e : Ex) (n : Nat)
  | rule (i : Nat)
  | seq (es : List Ex) (n : Nat)
  | alt (es : List Ex) (n : Nat)
  | rep (e : Ex) (n : Nat)
  | one (k : Int) (e : Ex) (n : Nat)
def pk (g : List Rl) (s : List UInt8) (hook : Bool) : Nat -> PJob -> Nat -> PS -> Option (Option Nat × PS)
  | 0, _, _, _ => none
  | m + 1, .try_ e n, p, σ => match pk g s hook m (.node e n) p σ with
    | none => none
    | some (o, σ1) => some (o, markS hook σ1 n o.isSome)
  | m + 1, .rule i, p, σ => match recall σ.seen (i, p) with
    | some o => some (o.map (p + ·), σ)
    | none => match g[i]? with
      | none => none
      | some r => match pk g s hook m (.try_ r.2 (firstN g i)) p σ with
        | none => none
        | some (o, σ1) => if (recall σ1.seen (i, p)).isSome then none else some (o, { σ1 with seen := σ1.seen ++ [((i, p), o.map (· - p))], log := σ1.log ++ [(i, p, o.map (· - p))] })
  | m + 1, .node (.mk k a b c d t ks) n, p, σ =>
    if k = 1 then some (some p, σ)
    else if k = 2 then (if p < s.length /\ hasE a b c d (bt s p) = true then some (some (p + 1), σ) else some (none, missS σ p ⟨a, b, c, d⟩))
    else if k = 3 then (if litAt s p t.data.toList = true then some (some (p + t.size), σ) else some (none, missS σ (p + matchN s p t.data.toList) (oneS (bt t.data.toList (matchN s p t.data.toList)))))
    else if k = 4 then pk g s hook m (.rule (fnd g t.data.toList).toNat) p σ
    else if k = 5 then pk g s hook m (.seq ks (n + 1)) p σ
    else if k = 6 then pk g s hook m (.alt ks (n + 1)) p σ
    else (match ks with
      | [] => none
      | e :: _ => pk g s hook m (.one k e n) p σ)
  | m + 1, .one k e n, p, σ => match pk g s hook m (.try_ e (n + 1)) p σ with
    | none => none
    | some (none, σ1) => some (if k = 8 \/ k = 10 then none else some p, σ1)
    | some (some tq, σ1) => if k = 10 then some (some p, σ1) else if k = 11 then some (none, σ1) else if k = 9 then some (some tq, σ1) else pk g s hook m (.rep e (n + 1)) tq σ1
  | _ + 1, .seq [] _, p, σ => some (some p, σ)
  | m + 1, .seq (e :: es) n, p, σ => match pk g s hook m (.try_ e n) p σ with
    | none => none
    | some (none, σ1) => some (none, σ1)
    | some (some tq, σ1) => pk g s hook m (.seq es (n + nodes e)) tq σ1
  | _ + 1, .alt [] _, _, σ => some (none, σ)
  | m + 1, .alt (e :: es) n, p, σ => match pk g s hook m (.try_ e n) p σ with
    | none => none
    | some (some tq, σ1) => some (some tq, σ1)
    | some (none, σ1) => pk g s hook m (.alt es (n + nodes e)) p σ1
  | m + 1, .rep e n, p, σ => match pk g s hook m (.try_ e n) p σ with
    | none => none
    | some (none, σ1) => some (some p, σ1)
    | some (some tq, σ1) => pk g s hook m (.rep e n) tq σ1
theorem pk_node (g : List Rl) (s : List UInt8) (hook : Bool) (m : Nat) (k a b c d : Int) (t : ByteArray) (ks : List Ex) (n p : Nat) (σ : PS) : pk g s hook (m + 1) (.node (.mk k a b c d t ks) n) p σ =
    if k = 1 then some (some p, σ)
    else if k = 2 then (if p < s.length /\ hasE a b c d (bt s p) = true then some (some (p + 1), σ) else some (none, missS σ p ⟨a, b, c, d⟩))
    else if k = 3 then (if litAt s p t.data.toList = true then some (some (p + t.size), σ) else some (none, missS σ (p + matchN s p t.data.toList) (oneS (bt t.data.toList (matchN s p t.data.toList)))))
    else if k = 4 then pk g s hook m (.rule (fnd g t.data.toList).toNat) p σ
    else if k = 5 then pk g s hook m (.seq ks (n + 1)) p σ
    else if k = 6 then pk g s hook m (.alt ks (n + 1)) p σ
    else (match ks with
      | [] => none
      | e :: _ => pk g s hook m (.one k e n) p σ) := rfl
theorem pk_mono (g : List Rl) (s : List UInt8) (hook : Bool) : ∀ m j p σ r, pk g s hook m j p σ = some r -> pk g s hook (m + 1) j p σ = some r := by
  intro m
  induction m with
  | zero => intro j p σ r h; cases h
  | succ m ih =>
    intro j p σ r h
    cases j with
    | try_ e n =>
      simp only [pk] at h
      show (match pk g s hook (m + 1) (.node e n) p σ with | none => none | some (o, σ1) => some (o, markS hook σ1 n o.isSome)) = some r
      cases he : pk g s hook m (.node e n) p σ with
      | none => rw [he] at h; cases h
      | some x => rw [he] at h; rw [ih _ _ _ _ he]; exact h
    | rule i =>
      simp only [pk] at h
      show (match recall σ.seen (i, p) with
        | some o => some (o.map (p + ·), σ)
        | none => match g[i]? with
          | none => none
          | some r => match pk g s hook (m + 1) (.try_ r.2 (firstN g i)) p σ with
            | none => none
            | some (o, σ1) => if (recall σ1.seen (i, p)).isSome then none else some (o, { σ1 with seen := σ1.seen ++ [((i, p), o.map (· - p))], log := σ1.log ++ [(i, p, o.map (· - p))] })) = some r
      cases hs : recall σ.seen (i, p) with
      | some o => rw [hs] at h; exact h
      | none =>
        rw [hs] at h
        simp only at h ⊢
        cases hg : g[i]? with
        | none => rw [hg] at h; cases h
        | some rr =>
          rw [hg] at h
          simp only at h ⊢
          cases he : pk g s hook m (.try_ rr.2 (firstN g i)) p σ with
          | none => rw [he] at h; cases h
          | some x => rw [he] at h; rw [ih _ _ _ _ he]; exact h
    | seq es n =>
      cases es with
      | nil => exact h
      | cons e es =>
        simp only [pk] at h
        show (match pk g s hook (m + 1) (.try_ e n) p σ with
          | none => none
          | some (none, σ1) => some (none, σ1)
          | some (some tq, σ1) => pk g s hook (m + 1) (.seq es (n + nodes e)) tq σ1) = some r
        cases he : pk g s hook m (.try_ e n) p σ with
        | none => rw [he] at h; cases h
        | some x =>
          rw [he] at h
          rw [ih _ _ _ _ he]
          obtain ⟨o, σ1⟩ := x
          cases o with
          | none => exact h
          | some tq => exact ih _ _ _ _ h
    | alt es n =>
      cases es with
      | nil => exact h
      | cons e es =>
        simp only [pk] at h
        show (match pk g s hook (m + 1) (.try_ e n) p σ with
          | none => none
          | some (some tq, σ1) => some (some tq, σ1)
          | some (none, σ1) => pk g s hook (m + 1) (.alt es (n + nodes e)) p σ1) = some r
        cases he : pk g s hook m (.try_ e n) p σ with
        | none => rw [he] at h; cases h
        | some x =>
          rw [he] at h
          rw [ih _ _ _ _ he]
          obtain ⟨o, σ1⟩ := x
          cases o with
          | some tq => exact h
          | none => exact ih _ _ _ _ h
    | rep e n =>
      simp only [pk] at h
      show (match pk g s hook (m + 1) (.try_ e n) p σ with
        | none => none
        | some (none, σ1) => some (some p, σ1)
        | some (some tq, σ1) => pk g s hook (m + 1) (.rep e n) tq σ1) = some r
      cases he : pk g s hook m (.try_ e n) p σ with
      | none => rw [he] at h; cases h
      | some x =>
        rw [he] at h
        rw [ih _ _ _ _ he]
        obtain ⟨o, σ1⟩ := x
        cases o with
        | none => exact h
        | some tq => exact ih _ _ _ _ h
    | node e n =>
      obtain ⟨k, a, b, c, d, t, ks⟩ := e
      rw [pk_node] at h
      rw [pk_node]
      by_cases k1 : k = 1
      · rw [if_pos k1] at h ⊢; exact h
      rw [if_neg k1] at h ⊢
      by_cases k2 : k = 2
      · rw [if_pos k2] at h ⊢; exact h
      rw [if_neg k2] at h ⊢
      by_cases k3 : k = 3
      · rw [if_pos k3] at h ⊢; exact h
      rw [if_neg k3] at h ⊢
      by_cases k4 : k = 4
      · rw [if_pos k4] at h ⊢; exact ih _ _ _ _ h
      rw [if_neg k4] at h ⊢
      by_cases k5 : k = 5
      · rw [if_pos k5] at h ⊢; exact ih _ _ _ _ h
      rw [if_neg k5] at h ⊢
      by_cases k6 : k = 6
      · rw [if_pos k6] at h ⊢; exact ih _ _ _ _ h
      rw [if_neg k6] at h ⊢
      cases ks with
      | nil => exact h
      | cons e es => exact ih _ _ _ _ h
    | one k e n =>
      simp only [pk] at h
      show (match pk g s hook (m + 1) (.try_ e (n + 1)) p σ with
        | none => none
        | some (none, σ1) => some (if k = 8 \/ k = 10 then none else some p, σ1)
        | some (some tq, σ1) => if k = 10 then some (some p, σ1) else if k = 11 then some (none, σ1) else if k = 9 then some (some tq, σ1) else pk g s hook (m + 1) (.rep e (n + 1)) tq σ1) = some r
      cases he : pk g s hook m (.try_ e (n + 1)) p σ with
      | none => rw [he] at h; cases h
      | some x =>
        rw [he] at h
        rw [ih _ _ _ _ he]
        obtain ⟨o, σ1⟩ := x
        cases o with
        | none => exact h
        | some tq =>
          simp only at h ⊢
          by_cases k10 : k = 10
          · rw [if_pos k10] at h ⊢; exact h
          rw [if_neg k10] at h ⊢
          by_cases k11 : k = 11
          · rw [if_pos k11] at h ⊢; exact h
          rw [if_neg k11] at h ⊢
          by_cases k9 : k = 9
          · rw [if_pos k9] at h ⊢; exact h
          rw [if_neg k9] at h ⊢
          exact ih _ _ _ _ h
theorem pk_le {g : List Rl} {s : List UInt8} {hook : Bool} {m m' : Nat} {j : PJob} {p : Nat} {σ : PS} {r : Option Nat × PS} (h : pk g s hook m j p σ = some r) (hm : m <= m') : pk g s hook m' j p σ = some r := by
  induction hm with
  | refl => exact h
  | step _ ih => exact pk_mono _ _ _ _ _ _ _ _ ih
theorem recall_app (l : List ((Nat × Nat) × Option Nat)) (k k' : Nat × Nat) (v : Option Nat) : recall (l ++ [(k, v)]) k' = if (recall l k').isSome then recall l k' else if k = k' then some v else none := by
  unfold recall
  rw [List.find?_append]
  cases h : l.find? (fun x => decide (x.1 = k')) with
  | some x => simp
  | none =>
    by_cases hk : k = k'
    · subst hk; simp
    · simp [hk]
def Agree (g : List Rl) (s : List UInt8) (σ : PS) : Prop := ∀ i p o, recall σ.seen (i, p) = some o -> ∃ r n, g[i]? = some r /\ ev g s n r.2 p = some (o.map (p + ·))
def Fresh (g : List Rl) (s : List UInt8) (n : Nat) (σ σ1 : PS) : Prop := ∀ i p, (recall σ1.seen (i, p)).isSome = true -> (recall σ.seen (i, p)).isSome = true \/ ∃ r k, k < n /\ g[i]? = some r /\ (ev g s k r.2 p).isSome = true
def Goes (g : List Rl) (s : List UInt8) (hook : Bool) (n : Nat) (j : PJob) (p : Nat) (σ : PS) (o : Option Nat) : Prop := ∃ m σ1, pk g s hook m j p σ = some (o, σ1) /\ Agree g s σ1 /\ Fresh g s n σ σ1
section
variable {g : List Rl} {s : List UInt8} {hook : Bool} {fs : List Fa}
theorem Fresh.rfl' {n : Nat} {σ : PS} : Fresh g s n σ σ := fun _ _ h => .inl h
theorem Fresh.of_eq {n : Nat} {σ σ1 : PS} (h : σ1.seen = σ.seen) : Fresh g s n σ σ1 := fun _ _ hh => .inl (by rw [<- h]; exact hh)
theorem Fresh.trans {n m k : Nat} {σ σ1 σ2 : PS} (h1 : Fresh g s n σ σ1) (h2 : Fresh g s m σ1 σ2) (hn : n <= k) (hm : m <= k) : Fresh g s k σ σ2 := fun i p h => by
  rcases h2 i p h with h | ⟨r, a, ha, hb⟩
  · rcases h1 i p h with h | ⟨r, a, ha, hb⟩
    · exact .inl h
    · exact .inr ⟨r, a, by omega, hb⟩
  · exact .inr ⟨r, a, by omega, hb⟩
theorem Agree.of_eq {σ σ1 : PS} (h : Agree g s σ) (he : σ1.seen = σ.seen) : Agree g s σ1 := fun i p o hh => h i p o (by rw [<- he]; exact hh)
theorem missS_seen (σ : PS) (p : Nat) (w : S4) : (missS σ p w).seen = σ.seen := by
  unfold missS
  split
  · rfl
  · split <;> rfl
theorem markS_seen (σ : PS) (n : Nat) (ok : Bool) : (markS hook σ n ok).seen = σ.seen := by
  unfold markS
  split <;> rfl
theorem Goes.try_ {n num p : Nat} {e : Ex} {σ : PS} {o : Option Nat} (h : Goes g s hook n (.node e num) p σ o) : Goes g s hook n (.try_ e num) p σ o := by
  obtain ⟨m, σ1, h1, h2, h3⟩ := h
  refine ⟨m + 1, markS hook σ1 num o.isSome, by simp only [pk, h1], h2.of_eq (markS_seen _ _ _), ?_⟩
  intro i q hh
  rw [markS_seen] at hh
  exact h3 i q hh
theorem least_fuel {e : Ex} {p : Nat} : ∀ n, (ev g s n e p).isSome = true -> ∃ n0, n0 <= n /\ (ev g s n0 e p).isSome = true /\ ∀ k, k < n0 -> (ev g s k e p).isSome = false := by
  intro n
  induction n using Nat.strongRecOn with
  | _ n ih =>
    intro h
    by_cases hk : ∃ k, k < n /\ (ev g s k e p).isSome = true
    · obtain ⟨k, hk, hs⟩ := hk
      obtain ⟨n0, h1, h2, h3⟩ := ih k hk hs
      exact ⟨n0, by omega, h2, h3⟩
    · refine ⟨n, Nat.le_refl _, h, fun k hkn => ?_⟩
      cases hc : (ev g s k e p).isSome with
      | false => rfl
      | true => exact absurd ⟨k, hkn, hc⟩ hk
theorem goes_rule (H : Fits g fs) {n i p : Nat} {r : Rl} {o : Option Nat} (hp : p <= s.length) (hr : g[i]? = some r) (he : ev g s n r.2 p = some o)
    (ih : ∀ n0, n0 <= n -> ∀ o, ev g s n0 r.2 p = some o -> ∀ σ num, Agree g s σ -> Goes g s hook n0 (.node r.2 num) p σ o) {σ : PS} (hσ : Agree g s σ) : Goes g s hook (n + 1) (.rule i) p σ o := by
  have hmem := List.mem_of_getElem? hr
  cases hs : recall σ.seen (i, p) with
  | some o' =>
    obtain ⟨r', n', hr', he'⟩ := hσ i p o' hs
    rw [hr] at hr'
    injection hr' with hr'
    subst hr'
    have := ev_eq he he'
    subst this
    exact ⟨1, σ, by simp only [pk, hs], hσ, Fresh.rfl'⟩
  | none =>
    obtain ⟨n0, h1, h2, h3⟩ := least_fuel n (by rw [he]; rfl)
    obtain ⟨o0, h0⟩ := Option.isSome_iff_exists.1 h2
    have := ev_eq h0 he
    subst this
    have ht := (told H n).1 r.2 p _ (H.right r hmem) hp he
    obtain ⟨m, σ1, e1, e2, e3⟩ := (ih n0 h1 _ h0 σ (firstN g i) hσ).try_
    have hnone : (recall σ1.seen (i, p)).isSome = false := by
      cases hc : (recall σ1.seen (i, p)).isSome with
      | false => rfl
      | true =>
        rcases e3 i p hc with hh | ⟨r', k, hk, hr', hh⟩
        · rw [hs] at hh; cases hh
        · rw [hr] at hr'
          injection hr' with hr'
          subst hr'
          rw [h3 k hk] at hh
          cases hh
    have hback : (o0.map (· - p)).map (p + ·) = o0 := by
      cases o0 with
      | none => rfl
      | some tq => show some (p + (tq - p)) = some tq; rw [Nat.add_sub_cancel' ht.1]
    refine ⟨m + 1, { σ1 with seen := σ1.seen ++ [((i, p), o0.map (· - p))], log := σ1.log ++ [(i, p, o0.map (· - p))] }, ?_, ?_, ?_⟩
    · simp only [pk, hs, hr, e1, hnone]
      rfl
    · intro j q o' hh
      rw [recall_app] at hh
      split at hh
      · exact e2 j q o' hh
      · split at hh
        · rename_i hk
          injection hk with hk1 hk2
          subst hk1 hk2
          injection hh with hh
          subst hh
          exact ⟨r, n, hr, by rw [hback]; exact he⟩
        · cases hh
    · intro j q hh
      rw [recall_app] at hh
      split at hh
      · rename_i hc
        rcases e3 j q hc with hh | ⟨r', k, hk, hr', hh⟩
        · exact .inl hh
        · exact .inr ⟨r', k, by omega, hr', hh⟩
      · split at hh
        · rename_i hk
          injection hk with hk1 hk2
          subst hk1 hk2
          exact .inr ⟨r, n0, by omega, hr, h2⟩
        · cases hh
theorem Goes.then {n num p : Nat} {e : Ex} {σ : PS} {u o : Option Nat} {j : PJob} (h : Goes g s hook n (.try_ e num) p σ u)
    (hh : ∀ m σ1, pk g s hook m (.try_ e num) p σ = some (u, σ1) -> Agree g s σ1 -> ∃ m' σ2, pk g s hook m' j p σ = some (o, σ2) /\ Agree g s σ2 /\ Fresh g s n σ1 σ2) : Goes g s hook (n + 1) j p σ o := by
  obtain ⟨m, σ1, h1, h2, h3⟩ := h
  obtain ⟨m', σ2, e1, e2, e3⟩ := hh m σ1 h1 h2
  exact ⟨m', σ2, e1, e2, h3.trans e3 (by omega) (by omega)⟩
theorem goes (H : Fits g fs) : ∀ n, (∀ e p o, Rt g e -> p <= s.length -> ev g s n e p = some o -> ∀ σ num, Agree g s σ -> Goes g s hook n (.node e num) p σ o) /\
    (∀ k e p o, 7 <= k /\ k <= 11 -> Rt g e -> p <= s.length -> evK g s n k e p = some o -> ∀ σ num, Agree g s σ -> Goes g s hook n (.one k e num) p σ o) /\
    (∀ es p o, (∀ e ∈ es, Rt g e) -> p <= s.length -> evS g s n es p = some o -> ∀ σ num, Agree g s σ -> Goes g s hook n (.seq es num) p σ o) /\
    (∀ es p o, (∀ e ∈ es, Rt g e) -> p <= s.length -> evA g s n es p = some o -> ∀ σ num, Agree g s σ -> Goes g s hook n (.alt es num) p σ o) /\
    (∀ e p o, Rt g e -> p <= s.length -> evR g s n e p = some o -> ∀ σ num, Agree g s σ -> Goes g s hook n (.rep e num) p σ o) := by
  intro n
  induction n using Nat.strongRecOn with
  | _ n ih =>
    cases n with
    | zero => exact ⟨fun e p o _ _ h => (by cases h), fun k e p o _ _ _ h => (by cases h), fun es p o _ _ h => (by cases h), fun es p o _ _ h => (by cases h), fun e p o _ _ h => (by cases h)⟩
    | succ n =>
      obtain ⟨i1, i2, i3, i4, i5⟩ := ih n (by omega)
      have tl := fun e p o hrt hp he => (told (s := s) H n).1 e p o hrt hp he
      refine ⟨?_, ?_, ?_, ?_, ?_⟩
      · rintro ⟨k, a, b, c, d, t, ks⟩ p o hrt hp h σ num hσ
        rw [ev_s] at h
        have hup : ∀ {j : PJob}, Goes g s hook n j p σ o -> (∀ m, pk g s hook (m + 1) (.node (.mk k a b c d t ks) num) p σ = pk g s hook m j p σ) -> Goes g s hook (n + 1) (.node (.mk k a b c d t ks) num) p σ o := by
          rintro j ⟨m, σ1, e1, e2, e3⟩ hj
          exact ⟨m + 1, σ1, by rw [hj]; exact e1, e2, e3.trans (k := n + 1) (Fresh.rfl' (n := 0)) (by omega) (by omega)⟩
        have hat : ∀ {σ1 : PS}, σ1.seen = σ.seen -> pk g s hook 1 (.node (.mk k a b c d t ks) num) p σ = some (o, σ1) -> Goes g s hook (n + 1) (.node (.mk k a b c d t ks) num) p σ o := fun hs hh => ⟨1, _, hh, hσ.of_eq hs, Fresh.of_eq hs⟩
        cases hrt with
        | mk _ _ _ _ _ _ _ hfit hname hkids =>
        rcases fit_cases hfit with ⟨rfl, h0⟩ | ⟨rfl, h0⟩ | ⟨rfl, h0, _, _⟩ | ⟨rfl, h0, _⟩ | ⟨rfl, h2, h8⟩ | ⟨rfl, h2, h8⟩ | ⟨h7, h11, h1⟩
        · rw [if_pos rfl] at h
          injection h with h; subst h
          exact hat rfl (by rw [pk_node, if_pos rfl])
        · rw [if_neg (by decide), if_pos rfl] at h
          injection h with h; subst h
          by_cases hc : p < s.length /\ hasE a b c d (bt s p) = true
          · exact hat rfl (by rw [pk_node, if_neg (by decide), if_pos rfl, if_pos hc, if_pos hc])
          · exact hat (missS_seen _ _ _) (by rw [pk_node, if_neg (by decide), if_pos rfl, if_neg hc, if_neg hc])
        · rw [if_neg (by decide), if_neg (by decide), if_pos rfl] at h
          injection h with h; subst h
          by_cases hc : litAt s p t.data.toList = true
          · exact hat rfl (by rw [pk_node, if_neg (by decide), if_neg (by decide), if_pos rfl, if_pos hc, if_pos hc])
          · exact hat (missS_seen _ _ _) (by rw [pk_node, if_neg (by decide), if_neg (by decide), if_pos rfl, if_neg hc, if_neg hc])
        · rw [if_neg (by decide), if_neg (by decide), if_neg (by decide), if_pos rfl] at h
          obtain ⟨r, hr, _⟩ := fnd_at (hname rfl)
          rw [hr] at h
          obtain ⟨m, σ1, e1, e2, e3⟩ := goes_rule (hook := hook) H hp hr h (fun n0 hn0 o ho σ num hσ => (ih n0 (by omega)).1 r.2 p o (H.right r (List.mem_of_getElem? hr)) hp ho σ num hσ) hσ
          exact ⟨m + 1, σ1, by rw [pk_node, if_neg (by decide), if_neg (by decide), if_neg (by decide), if_pos rfl]; exact e1, e2, e3⟩
        · rw [if_neg (by decide), if_neg (by decide), if_neg (by decide), if_neg (by decide), if_pos rfl] at h
          exact hup (i3 ks p o hkids hp h σ (num + 1) hσ) fun m => by rw [pk_node, if_neg (by decide), if_neg (by decide), if_neg (by decide), if_neg (by decide), if_pos rfl]
        · rw [if_neg (by decide), if_neg (by decide), if_neg (by decide), if_neg (by decide), if_neg (by decide), if_pos rfl] at h
          exact hup (i4 ks p o hkids hp h σ (num + 1) hσ) fun m => by rw [pk_node, if_neg (by decide), if_neg (by decide), if_neg (by decide), if_neg (by decide), if_neg (by decide), if_pos rfl]
        · rw [if_neg (by omega), if_neg (by omega), if_neg (by omega), if_neg (by omega), if_neg (by omega), if_neg (by omega)] at h
          cases ks with
          | nil => simp at h1
          | cons e es =>
            exact hup (i2 k e p o ⟨h7, h11⟩ (hkids e (by simp)) hp h σ num hσ) fun m => by rw [pk_node, if_neg (by omega), if_neg (by omega), if_neg (by omega), if_neg (by omega), if_neg (by omega), if_neg (by omega)]
      · rintro k e p o hk hrt hp h σ num hσ
        rw [evK_s] at h
        by_cases k7 : k = 7
        · subst k7
          rw [if_pos rfl] at h
          cases n with
          | zero => cases h
          | succ n =>
            rw [evR_s] at h
            obtain ⟨j1, _, _, _, j5⟩ := ih n (by omega)
            cases he : ev g s n e p with
            | none => rw [he] at h; cases h
            | some u =>
              rw [he] at h
              obtain ⟨m, σ1, e1, e2, e3⟩ := (j1 e p u hrt hp he σ (num + 1) hσ).try_
              cases u with
              | none =>
                injection h with h; subst h
                exact ⟨m + 1, σ1, by simp only [pk, e1]; rfl, e2, e3.trans (k := n + 1 + 1) (Fresh.rfl' (n := 0)) (by omega) (by omega)⟩
              | some tq =>
                have ht := (told (s := s) H n).1 e p _ hrt hp he
                obtain ⟨m', σ2, f1, f2, f3⟩ := j5 e tq o hrt ht.2.1 h σ1 (num + 1) e2
                refine ⟨max m m' + 1, σ2, ?_, f2, e3.trans f3 (by omega) (by omega)⟩
                simp only [pk, pk_le e1 (Nat.le_max_left m m')]
                rw [if_neg (by decide), if_neg (by decide), if_neg (by decide)]
                exact pk_le f1 (Nat.le_max_right m m')
        rw [if_neg k7] at h
        cases he : ev g s n e p with
        | none => rw [he] at h; cases h
        | some u =>
          rw [he] at h
          obtain ⟨m, σ1, e1, e2, e3⟩ := (i1 e p u hrt hp he σ (num + 1) hσ).try_
          cases u with
          | none =>
            injection h with h; subst h
            exact ⟨m + 1, σ1, by simp only [pk, e1], e2, e3.trans (k := n + 1) (Fresh.rfl' (n := 0)) (by omega) (by omega)⟩
          | some tq =>
            simp only at h
            by_cases k8 : k = 8
            · rw [if_pos k8] at h
              subst k8
              obtain ⟨m', σ2, f1, f2, f3⟩ := i5 e tq o hrt (tl e p _ hrt hp he).2.1 h σ1 (num + 1) e2
              refine ⟨max m m' + 1, σ2, ?_, f2, e3.trans f3 (by omega) (by omega)⟩
              simp only [pk, pk_le e1 (Nat.le_max_left m m')]
              rw [if_neg (by decide), if_neg (by decide), if_neg (by decide)]
              exact pk_le f1 (Nat.le_max_right m m')
            · rw [if_neg k8] at h
              refine ⟨m + 1, σ1, ?_, e2, e3.trans (k := n + 1) (Fresh.rfl' (n := 0)) (by omega) (by omega)⟩
              simp only [pk, e1]
              by_cases k9 : k = 9
              · subst k9; simp at h ⊢; exact h
              by_cases k10 : k = 10
              · subst k10; simp at h ⊢; exact h
              have k11 : k = 11 := by omega
              subst k11
              simp at h ⊢; exact h
      · rintro es p o hrt hp h σ num hσ
        cases es with
        | nil =>
          rw [evS_nil] at h
          injection h with h; subst h
          exact ⟨1, σ, rfl, hσ, Fresh.rfl'⟩
        | cons e es =>
          rw [evS_cons] at h
          cases he : ev g s n e p with
          | none => rw [he] at h; cases h
          | some u =>
            rw [he] at h
            obtain ⟨m, σ1, e1, e2, e3⟩ := (i1 e p u (hrt e (by simp)) hp he σ num hσ).try_
            cases u with
            | none =>
              injection h with h; subst h
              exact ⟨m + 1, σ1, by simp only [pk, e1], e2, e3.trans (k := n + 1) (Fresh.rfl' (n := 0)) (by omega) (by omega)⟩
            | some tq =>
              obtain ⟨m', σ2, f1, f2, f3⟩ := i3 es tq o (fun e he => hrt e (by simp [he])) (tl e p _ (hrt e (by simp)) hp he).2.1 h σ1 (num + nodes e) e2
              refine ⟨max m m' + 1, σ2, ?_, f2, e3.trans f3 (by omega) (by omega)⟩
              simp only [pk, pk_le e1 (Nat.le_max_left m m')]
              exact pk_le f1 (Nat.le_max_right m m')
      · rintro es p o hrt hp h σ num hσ
        cases es with
        | nil =>
          rw [evA_nil] at h
          injection h with h; subst h
          exact ⟨1, σ, rfl, hσ, Fresh.rfl'⟩
        | cons e es =>
          rw [evA_cons] at h
          cases he : ev g s n e p with
          | none => rw [he] at h; cases h
          | some u =>
            rw [he] at h
            obtain ⟨m, σ1, e1, e2, e3⟩ := (i1 e p u (hrt e (by simp)) hp he σ num hσ).try_
            cases u with
            | some tq =>
              injection h with h; subst h
              exact ⟨m + 1, σ1, by simp only [pk, e1], e2, e3.trans (k := n + 1) (Fresh.rfl' (n := 0)) (by omega) (by omega)⟩
            | none =>
              obtain ⟨m', σ2, f1, f2, f3⟩ := i4 es p o (fun e he => hrt e (by simp [he])) hp h σ1 (num + nodes e) e2
              refine ⟨max m m' + 1, σ2, ?_, f2, e3.trans f3 (by omega) (by omega)⟩
              simp only [pk, pk_le e1 (Nat.le_max_left m m')]
              exact pk_le f1 (Nat.le_max_right m m')
      · rintro e p o hrt hp h σ num hσ
        rw [evR_s] at h
        cases he : ev g s n e p with
        | none => rw [he] at h; cases h
        | some u =>
          rw [he] at h
          obtain ⟨m, σ1, e1, e2, e3⟩ := (i1 e p u hrt hp he σ num hσ).try_
          cases u with
          | none =>
            injection h with h; subst h
            exact ⟨m + 1, σ1, by simp only [pk, e1], e2, e3.trans (k := n + 1) (Fresh.rfl' (n := 0)) (by omega) (by omega)⟩
          | some tq =>
            obtain ⟨m', σ2, f1, f2, f3⟩ := i5 e tq o hrt (tl e p _ hrt hp he).2.1 h σ1 num e2
            refine ⟨max m m' + 1, σ2, ?_, f2, e3.trans f3 (by omega) (by omega)⟩
            simp only [pk, pk_le e1 (Nat.le_max_left m m')]
            exact pk_le f1 (Nat.le_max_right m m')
end
end Go.Proofs.YtndhbdbfjkmloaaDoor
