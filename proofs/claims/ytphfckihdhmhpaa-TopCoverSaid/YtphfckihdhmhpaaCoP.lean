/- Marks of nodes, plain: what was tried, what succeeded; the numbers of nodes. -/
import Derived.Test.YtphfckihdhmhpaaGL
namespace Go.Proofs.Ytphfckihdhmhpaa

mutual
/-- the nodes, each ahead of its kids -/
def preL : Ex → List Ex
  | .mk k a b c d t ks => .mk k a b c d t ks :: preLs ks
def preLs : List Ex → List Ex
  | [] => []
  | e :: es => preL e ++ preLs es
end
def kidsX : Ex → List Ex
  | .mk _ _ _ _ _ _ ks => ks
def kindX : Ex → Int
  | .mk k _ _ _ _ _ _ => k
theorem preL_eq (e : Ex) : preL e = e :: preLs (kidsX e) := by
  cases e
  rw [preL]
  rfl
theorem preLs_len' : ∀ (es : List Ex), (∀ e ∈ es, (preL e).length = nodes e) → (preLs es).length = nodesAll es
  | [], _ => by rw [preLs, nodesAll]; rfl
  | e :: es, h => by rw [preLs, nodesAll, List.length_append, h e (by simp), preLs_len' es fun e he => h e (by simp [he])]
theorem preL_len (e : Ex) : (preL e).length = nodes e := by
  refine Ex.ind (P := fun e => (preL e).length = nodes e) ?_ e
  intro k a b c d t ks ih
  rw [preL, nodes, List.length_cons, preLs_len' ks ih]
  omega
theorem preLs_len (es : List Ex) : (preLs es).length = nodesAll es := preLs_len' es fun e _ => preL_len e
theorem nodes_eq (e : Ex) : nodes e = 1 + nodesAll (kidsX e) := by
  cases e
  rw [nodes]
  rfl
/-- the nodes of e stand from s on -/
def Seg (L : List Ex) (s : Nat) (e : Ex) : Prop := s + nodes e ≤ L.length ∧ ∀ t, t < nodes e → L[s + t]? = (preL e)[t]?
theorem Seg.here (e : Ex) : Seg (preL e) 0 e := ⟨by rw [preL_len]; omega, fun t _ => by rw [Nat.zero_add]⟩
theorem Seg.left {L : List Ex} {s : Nat} {e : Ex} (h : Seg L s e) (L' : List Ex) : Seg (L ++ L') s e :=
  ⟨by rw [List.length_append]; have := h.1; omega, fun t ht => by rw [List.getElem?_append_left (by have := h.1; omega)]; exact h.2 t ht⟩
theorem Seg.right {L : List Ex} {s : Nat} {e : Ex} (h : Seg L s e) (L' : List Ex) : Seg (L' ++ L) (L'.length + s) e :=
  ⟨by rw [List.length_append]; have := h.1; omega, fun t ht => by
    rw [List.getElem?_append_right (by omega), show L'.length + s + t - L'.length = s + t by omega]
    exact h.2 t ht⟩
theorem Seg.trans {L : List Ex} {s t : Nat} {e x : Ex} (h : Seg L s e) (k : Seg (preL e) t x) : Seg L (s + t) x := by
  have h1 := h.1
  have k1 := k.1
  rw [preL_len] at k1
  refine ⟨by omega, fun u hu => ?_⟩
  rw [Nat.add_assoc, h.2 (t + u) (by omega)]
  exact k.2 u hu
theorem seg_kids : ∀ {ks : List Ex} {j : Nat} {x : Ex}, ks[j]? = some x → Seg (preLs ks) (nodesAll (ks.take j)) x
  | [], j, x, h => by simp at h
  | e :: ks, 0, x, h => by
    simp only [List.getElem?_cons_zero, Option.some.injEq] at h
    subst h
    rw [preLs, List.take_zero, nodesAll]
    exact (Seg.here e).left _
  | e :: ks, j + 1, x, h => by
    have := (seg_kids (ks := ks) (j := j) (by simpa using h)).right (preL e)
    rw [preL_len] at this
    rw [preLs, List.take_succ_cons, nodesAll]
    exact this
theorem seg_kid {L : List Ex} {s j : Nat} {e x : Ex} (h : Seg L s e) (hx : (kidsX e)[j]? = some x) : Seg L (s + 1 + nodesAll ((kidsX e).take j)) x := by
  have h1 : Seg (preL e) (1 + nodesAll ((kidsX e).take j)) x := by
    rw [preL_eq]
    have := (seg_kids hx).right [e]
    simpa [Nat.add_comm] using this
  have := h.trans h1
  rwa [← Nat.add_assoc] at this
theorem seg_alls : ∀ {es : List Ex}, (∀ e ∈ es, ∀ s x, (preL e)[s]? = some x → Seg (preL e) s x) → ∀ s x, (preLs es)[s]? = some x → Seg (preLs es) s x
  | [], _, s, x, h => by rw [preLs] at h; simp at h
  | e :: es, H, s, x, h => by
    rw [preLs] at h ⊢
    rcases Nat.lt_or_ge s (preL e).length with h1 | h1
    · rw [List.getElem?_append_left h1] at h
      exact (H e (by simp) s x h).left _
    · rw [List.getElem?_append_right h1] at h
      have := (seg_alls (fun e he => H e (by simp [he])) _ x h).right (preL e)
      rwa [show (preL e).length + (s - (preL e).length) = s by omega] at this
theorem seg_all (e : Ex) : ∀ s x, (preL e)[s]? = some x → Seg (preL e) s x := by
  refine Ex.ind (P := fun e => ∀ s x, (preL e)[s]? = some x → Seg (preL e) s x) ?_ e
  intro k a b c d t ks ih s x h
  cases s with
  | zero =>
    rw [preL] at h
    simp only [List.getElem?_cons_zero, Option.some.injEq] at h
    subst h
    exact Seg.here _
  | succ s =>
    rw [preL] at h ⊢
    have h' : (preLs ks)[s]? = some x := by simpa using h
    have := (seg_alls ih s x h').right [.mk k a b c d t ks]
    simpa [Nat.add_comm] using this
theorem seg_any {es : List Ex} {s : Nat} {x : Ex} (h : (preLs es)[s]? = some x) : Seg (preLs es) s x := seg_alls (fun e _ => seg_all e) s x h
theorem Seg.at_ {L : List Ex} {s : Nat} {e : Ex} (h : Seg L s e) : L[s]? = some e := by
  have := h.2 0 (by rw [nodes_eq]; omega)
  rw [Nat.add_zero, preL_eq] at this
  simpa using this
theorem locate : ∀ {ks : List Ex} {j t : Nat}, t < nodesAll (ks.take j) → ∃ j' y, ks[j']? = some y ∧ nodesAll (ks.take j') ≤ t ∧ t < nodesAll (ks.take j') + nodes y ∧ nodesAll (ks.take j') + nodes y ≤ nodesAll (ks.take j)
  | [], j, t, h => by simp [nodesAll] at h
  | e :: ks, 0, t, h => by rw [List.take_zero, nodesAll] at h; omega
  | e :: ks, j + 1, t, h => by
    rw [List.take_succ_cons, nodesAll] at h
    rcases Nat.lt_or_ge t (nodes e) with h1 | h1
    · refine ⟨0, e, rfl, ?_, ?_, ?_⟩
      · rw [List.take_zero, nodesAll]; omega
      · rw [List.take_zero, nodesAll]; omega
      · rw [List.take_zero, nodesAll, List.take_succ_cons, nodesAll]; omega
    · obtain ⟨j', y, h2, h3, h4, h5⟩ := locate (ks := ks) (j := j) (t := t - nodes e) (by omega)
      refine ⟨j' + 1, y, by simpa using h2, ?_, ?_, ?_⟩
      · rw [List.take_succ_cons, nodesAll]; omega
      · rw [List.take_succ_cons, nodesAll]; omega
      · rw [List.take_succ_cons, nodesAll, List.take_succ_cons, nodesAll]; omega
/-- b is the number of node i's kid j -/
structure Edge (L : List Ex) (i : Nat) (x : Ex) (j b : Nat) : Prop where
  at_ : L[i]? = some x
  lt : j < (kidsX x).length
  is : b = i + 1 + nodesAll ((kidsX x).take j)
theorem nodesAll_take : ∀ {ks : List Ex} {j : Nat} {y : Ex}, ks[j]? = some y → nodesAll (ks.take j) + nodes y ≤ nodesAll ks
  | [], j, y, h => by simp at h
  | e :: ks, 0, y, h => by
    simp only [List.getElem?_cons_zero, Option.some.injEq] at h
    subst h
    rw [List.take_zero, nodesAll, nodesAll]
    omega
  | e :: ks, j + 1, y, h => by
    have := nodesAll_take (ks := ks) (j := j) (by simpa using h)
    rw [List.take_succ_cons, nodesAll, nodesAll]
    omega
theorem edge_not {es : List Ex} {i i' j j' b : Nat} {x x' : Ex} (h : Edge (preLs es) i x j b) (h' : Edge (preLs es) i' x' j' b) : ¬ i < i' := fun hlt => by
  have hs := seg_any h.at_
  obtain ⟨y', hy⟩ : ∃ y', (kidsX x')[j']? = some y' := ⟨_, List.getElem?_eq_getElem h'.lt⟩
  have hb := h.is
  have hb' := h'.is
  obtain ⟨j2, y2, k1, k2, k3, k4⟩ := locate (ks := kidsX x) (j := j) (t := i' - i - 1) (by omega)
  have hk := seg_kid hs k1
  have hu : (preL y2)[i' - i - 1 - nodesAll ((kidsX x).take j2)]? = some x' := by
    have := hk.2 (i' - i - 1 - nodesAll ((kidsX x).take j2)) (by omega)
    rw [show i + 1 + nodesAll ((kidsX x).take j2) + (i' - i - 1 - nodesAll ((kidsX x).take j2)) = i' by omega, h'.at_] at this
    exact this.symm
  have hs2 := (seg_all y2 _ _ hu).1
  rw [preL_len] at hs2
  have h3 := nodesAll_take hy
  have h4 := nodes_eq x'
  have h5 : 1 ≤ nodes y' := by rw [nodes_eq]; omega
  omega
/-- no node has two parents -/
theorem edge_one {es : List Ex} {i i' j j' b : Nat} {x x' : Ex} (h : Edge (preLs es) i x j b) (h' : Edge (preLs es) i' x' j' b) : i = i' := by
  have h1 := edge_not h h'
  have h2 := edge_not h' h
  omega

def mkA (M : List Nat) (i : Nat) : Nat := M.getD i 0
/-- what is so of all marks; nodes in O are under way -/
structure Cov (L : List Ex) (O : Nat → Prop) (M : List Nat) : Prop where
  len : M.length = L.length
  le : ∀ i, mkA M i ≤ 3
  up : ∀ i x j b, Edge L i x j b → ¬ O i → mkA M b ≠ 0 → mkA M i ≠ 0
  seq : ∀ i x, L[i]? = some x → kindX x = 5 → mkA M i % 2 = 1 → ∀ j, j < (kidsX x).length → mkA M (i + 1 + nodesAll ((kidsX x).take j)) % 2 = 1
  alt : ∀ i x, L[i]? = some x → kindX x = 6 → mkA M i % 2 = 1 → ∃ j, j < (kidsX x).length ∧ mkA M (i + 1 + nodesAll ((kidsX x).take j)) % 2 = 1
/-- marks are never lost -/
structure Mor (M M' : List Nat) : Prop where
  nz : ∀ i, mkA M i ≠ 0 → mkA M' i ≠ 0
  b0 : ∀ i, mkA M i % 2 = 1 → mkA M' i % 2 = 1
theorem Mor.refl (M : List Nat) : Mor M M := ⟨fun _ h => h, fun _ h => h⟩
theorem Mor.trans {a b c : List Nat} (h : Mor a b) (k : Mor b c) : Mor a c := ⟨fun i x => k.nz i (h.nz i x), fun i x => k.b0 i (h.b0 i x)⟩
def NoPar (L : List Ex) (O : Nat → Prop) (b : Nat) : Prop := ∀ i x j, Edge L i x j b → O i
theorem Cov.weak {L : List Ex} {O O' : Nat → Prop} {M : List Nat} (h : Cov L O M) (hO : ∀ i, O i → O' i) : Cov L O' M :=
  ⟨h.len, h.le, fun i x j b e ho => h.up i x j b e fun hi => ho (hO i hi), h.seq, h.alt⟩
theorem or_bits (m : Nat) (hm : m ≤ 3) : (m ||| 1) ≤ 3 ∧ (m ||| 2) ≤ 3 ∧ (m ||| 1) ≠ 0 ∧ (m ||| 2) ≠ 0 ∧ (m ||| 1) % 2 = 1 ∧ (m ||| 2) % 2 = m % 2 ∧ (m ||| 2) / 2 % 2 = 1 := by
  have h : ∀ m : Fin 4, ((m : Nat) ||| 1) ≤ 3 ∧ ((m : Nat) ||| 2) ≤ 3 ∧ ((m : Nat) ||| 1) ≠ 0 ∧ ((m : Nat) ||| 2) ≠ 0 ∧ ((m : Nat) ||| 1) % 2 = 1 ∧ ((m : Nat) ||| 2) % 2 = (m : Nat) % 2 ∧ ((m : Nat) ||| 2) / 2 % 2 = 1 := by decide +kernel
  exact h ⟨m, by omega⟩
theorem mkA_set {M : List Nat} {n v : Nat} (hn : n < M.length) (i : Nat) : mkA (M.set n v) i = if i = n then v else mkA M i := by
  unfold mkA
  rw [List.getD_eq_getElem?_getD, List.getD_eq_getElem?_getD, List.getElem?_set]
  by_cases h : n = i
  · subst h
    rw [if_pos rfl, if_pos rfl, if_pos hn]
    rfl
  · rw [if_neg h, if_neg (fun e => h e.symm)]
/-- a node was tried: its mark -/
theorem cov_mark {es : List Ex} {O : Nat → Prop} {M : List Nat} {n : Nat} {e : Ex} {ok : Bool} (he : (preLs es)[n]? = some e) (hp : NoPar (preLs es) O n) (h : Cov (preLs es) (fun i => O i ∨ i = n) M)
    (h5 : kindX e = 5 → ok = true → ∀ j, j < (kidsX e).length → mkA M (n + 1 + nodesAll ((kidsX e).take j)) % 2 = 1)
    (h6 : kindX e = 6 → ok = true → ∃ j, j < (kidsX e).length ∧ mkA M (n + 1 + nodesAll ((kidsX e).take j)) % 2 = 1) :
    Cov (preLs es) O (M.set n (M.getD n 0 ||| (if ok then 1 else 2))) ∧ Mor M (M.set n (M.getD n 0 ||| (if ok then 1 else 2))) ∧ mkA (M.set n (M.getD n 0 ||| (if ok then 1 else 2))) n ≠ 0 ∧
      (ok = true → mkA (M.set n (M.getD n 0 ||| (if ok then 1 else 2))) n % 2 = 1) ∧ (ok = false → mkA (M.set n (M.getD n 0 ||| (if ok then 1 else 2))) n / 2 % 2 = 1) := by
  have hn : n < M.length := by rw [h.len]; exact (List.getElem?_eq_some_iff.1 he).1
  obtain ⟨b1, b2, b3, b4, b5, b6, b7⟩ := or_bits (M.getD n 0) (h.le n)
  have hv : ∀ i, mkA (M.set n (M.getD n 0 ||| (if ok then 1 else 2))) i = if i = n then (M.getD n 0 ||| (if ok then 1 else 2)) else mkA M i := mkA_set hn
  have hv0 : (M.getD n 0 ||| (if ok then 1 else 2)) ≤ 3 ∧ (M.getD n 0 ||| (if ok then 1 else 2)) ≠ 0 ∧ (ok = true → (M.getD n 0 ||| (if ok then 1 else 2)) % 2 = 1) ∧ (ok = false → (M.getD n 0 ||| (if ok then 1 else 2)) / 2 % 2 = 1) ∧ (mkA M n % 2 = 1 → (M.getD n 0 ||| (if ok then 1 else 2)) % 2 = 1) ∧ (ok = false → (M.getD n 0 ||| (if ok then 1 else 2)) % 2 = 1 → mkA M n % 2 = 1) := by
    cases ok with
    | true => exact ⟨b1, b3, fun _ => b5, fun h => (by cases h), fun _ => b5, fun h => (by cases h)⟩
    | false => exact ⟨b2, b4, fun h => (by cases h), fun _ => b7, fun h => by show (M.getD n 0 ||| 2) % 2 = 1; rw [b6]; exact h, fun _ h => by
        have h : (M.getD n 0 ||| 2) % 2 = 1 := h
        rw [b6] at h
        exact h⟩
  obtain ⟨v1, v2, v3, v4, v5, v6⟩ := hv0
  have hlen : (M.set n (M.getD n 0 ||| (if ok then 1 else 2))).length = M.length := List.length_set ..
  generalize (M.getD n 0 ||| (if ok then 1 else 2)) = v at hv v1 v2 v3 v4 v5 v6 hlen ⊢
  have hmor : Mor M (M.set n v) := ⟨fun i hi => by rw [hv]; split; exact v2; exact hi, fun i hi => by
    rw [hv]
    split
    · rename_i e
      subst e
      exact v5 hi
    · exact hi⟩
  refine ⟨⟨by rw [hlen]; exact h.len, fun i => by rw [hv]; split; exact v1; exact h.le i, fun i x j b hE ho hb => ?_, fun i x hx hk hb j hj => ?_, fun i x hx hk hb => ?_⟩, hmor, by rw [hv, if_pos rfl]; exact v2, fun h => by rw [hv, if_pos rfl]; exact v3 h, fun h => by rw [hv, if_pos rfl]; exact v4 h⟩
  · rw [hv] at hb ⊢
    by_cases hin : i = n
    · rw [if_pos hin]; exact v2
    · rw [if_neg hin]
      by_cases hbn : b = n
      · subst hbn
        exact absurd (hp i x j hE) ho
      · rw [if_neg hbn] at hb
        exact h.up i x j b hE (fun h => h.elim ho hin) hb
  · by_cases hin : i = n
    · subst hin
      rw [he] at hx
      injection hx with hx
      subst hx
      cases ok with
      | true => exact hmor.b0 _ (h5 hk rfl j hj)
      | false =>
        rw [hv, if_pos rfl] at hb
        exact hmor.b0 _ (h.seq i e he hk (v6 rfl hb) j hj)
    · rw [hv, if_neg hin] at hb
      exact hmor.b0 _ (h.seq i x hx hk hb j hj)
  · by_cases hin : i = n
    · subst hin
      rw [he] at hx
      injection hx with hx
      subst hx
      cases ok with
      | true =>
        obtain ⟨j, h1, h2⟩ := h6 hk rfl
        exact ⟨j, h1, hmor.b0 _ h2⟩
      | false =>
        rw [hv, if_pos rfl] at hb
        obtain ⟨j, h1, h2⟩ := h.alt i e he hk (v6 rfl hb)
        exact ⟨j, h1, hmor.b0 _ h2⟩
    · rw [hv, if_neg hin] at hb
      obtain ⟨j, h1, h2⟩ := h.alt i x hx hk hb
      exact ⟨j, h1, hmor.b0 _ h2⟩
end Go.Proofs.Ytphfckihdhmhpaa
