/- A grammar whose rules stand for another's: as well, with the same facts, meaning the same; plain. -/
import Derived.Test.YtefechceoeeonaaSiR
namespace Go.Proofs.Ytefechceoeeonaa
open Go.RowKit

/-! what hangs on the names alone -/
theorem fndFrom_names : ∀ {g h : List Rl}, h.map Prod.fst = g.map Prod.fst → ∀ (t : List UInt8) (i : Nat), fndFrom h t i = fndFrom g t i
  | [], [], _, _, _ => rfl
  | [], _ :: _, h, _, _ => by simp at h
  | _ :: _, [], h, _, _ => by simp at h
  | r :: g, r' :: h, hn, t, i => by
    simp only [List.map_cons, List.cons.injEq] at hn
    rw [fndFrom, fndFrom, hn.1, fndFrom_names hn.2 t (i + 1)]
section
variable {g h : List Rl}
theorem ofE_fnd (hf : ∀ t, fnd h t = fnd g t) (kn : List Fa) (e : Ex) : ofE h kn e = ofE g kn e := by
  refine Ex.ind (P := fun e => ofE h kn e = ofE g kn e) ?_ e
  intro k a b c d t ks ih
  have hm : ofEs h kn ks = ofEs g kn ks := by
    rw [ofEs_map, ofEs_map]
    exact List.map_congr_left ih
  rw [ofE, ofE, hm, hf]
theorem loopsE_fnd (hf : ∀ t, fnd h t = fnd g t) (fs : List Fa) (e : Ex) : loopsE h fs e = loopsE g fs e := by
  refine Ex.ind (P := fun e => loopsE h fs e = loopsE g fs e) ?_ e
  intro k a b c d t ks ih
  have hm : ofEs h fs ks = ofEs g fs ks := by
    rw [ofEs_map, ofEs_map]
    exact List.map_congr_left fun e _ => ofE_fnd hf fs e
  have hl : loopsEs h fs ks = loopsEs g fs ks := by
    clear hm
    induction ks with
    | nil => rw [loopsEs, loopsEs]
    | cons x ks ihk => rw [loopsEs, loopsEs, ih x (by simp), ihk fun e he => ih e (by simp [he])]
  rw [loopsE, loopsE, hm, hl]
theorem soundE_fnd (hf : ∀ t, fnd h t = fnd g t) (fs : List Fa) (kn : List Bool) (e : Ex) : soundE h fs kn e = soundE g fs kn e := by
  refine Ex.ind (P := fun e => soundE h fs kn e = soundE g fs kn e) ?_ e
  intro k a b c d t ks ih
  have h1 : soundS h fs kn ks = soundS g fs kn ks := by
    induction ks with
    | nil => rw [soundS, soundS]
    | cons x ks ihk => rw [soundS, soundS, ih x (by simp), ofE_fnd hf, ihk fun e he => ih e (by simp [he])]
  have h2 : soundA h fs kn ks = soundA g fs kn ks := by
    clear h1
    induction ks with
    | nil => rw [soundA, soundA]
    | cons x ks ihk => rw [soundA, soundA, ih x (by simp), ihk fun e he => ih e (by simp [he])]
  rw [soundE, soundE, h1, h2, hf]
theorem rt_fnd (hf : ∀ t, fnd h t = fnd g t) {e : Ex} (hr : Rt g e) : Rt h e := by
  induction hr with
  | mk k a b c d t ks h1 h2 _ ih => exact .mk k a b c d t ks h1 (fun hk => by rw [hf]; exact h2 hk) ih
end
/-! right, if each node is, and there are no more, no deeper -/
theorem looks_yes : ∀ (ks : List Ex) (n deep : Nat), (∀ e ∈ ks, ∀ n deep, n + nodes e ≤ 60 → deep + dep e ≤ 13 → lookN e n deep = (0, n + nodes e)) → n + nodesAll ks ≤ 60 → deep + depAll ks ≤ 13 → looks ks n deep = (0, n + nodesAll ks)
  | [], n, deep, _, _, _ => by rw [looks]; simp [nodesAll]
  | e :: es, n, deep, h, h1, h2 => by
    rw [nodesAll] at h1 ⊢
    rw [depAll] at h2
    rw [looks, h e (by simp) n deep (by omega) (by omega), if_pos rfl]
    simp only
    rw [looks_yes es (n + nodes e) deep (fun x hx => h x (by simp [hx])) (by omega) (by omega), Nat.add_assoc]
theorem look_yes {g : List Rl} {e : Ex} (hr : Rt g e) : ∀ n deep, n + nodes e ≤ 60 → deep + dep e ≤ 13 → lookN e n deep = (0, n + nodes e) := by
  induction hr with
  | mk k a b c d t ks hf _ _ ih =>
    intro n deep h1 h2
    rw [nodes] at h1 ⊢
    rw [dep] at h2
    rw [lookN, if_neg (by omega), if_neg (by omega), if_neg (by rw [hf]; decide), looks_yes ks (n + 1) (deep + 1) ih (by omega) (by omega), Nat.add_assoc]
theorem looks_dep : ∀ (ks : List Ex) (n deep : Nat), (∀ e ∈ ks, ∀ n deep, (lookN e n deep).1 = 0 → deep + dep e ≤ 13) → (looks ks n deep).1 = 0 → ks ≠ [] → deep + depAll ks ≤ 13
  | [], _, _, _, _, h => absurd rfl h
  | e :: es, n, deep, h, h0, _ => by
    rw [looks] at h0
    split at h0
    · rename_i h1
      have h2 := h e (by simp) n deep h1
      rw [depAll]
      cases es with
      | nil => simp only [depAll]; omega
      | cons x xs =>
        have h3 := looks_dep (x :: xs) _ deep (fun y hy => h y (by simp [hy])) h0 (by simp)
        omega
    · rename_i h1; exact absurd h0 h1
theorem look_dep (e : Ex) : ∀ n deep, (lookN e n deep).1 = 0 → deep + dep e ≤ 13 := by
  refine Ex.ind (P := fun e => ∀ n deep, (lookN e n deep).1 = 0 → deep + dep e ≤ 13) ?_ e
  intro k a b c d t ks ih n deep h
  rw [lookN] at h
  split at h
  · simp at h
  split at h
  · simp at h
  rename_i h12
  split at h
  · simp at h
  rw [dep]
  cases ks with
  | nil => simp only [depAll]; omega
  | cons x xs =>
    have := looks_dep (x :: xs) _ _ ih h (by simp)
    omega
theorem check_less {h : List Rl} {e e' : Ex} (h0 : checkE e = 0) (hr : Rt h e') (hs : nodes e' ≤ nodes e) (hd : dep e' ≤ dep e) : checkE e' = 0 := by
  have h1 := look_dep e 0 1 h0
  have h2 := nodes_le h0
  unfold checkE
  rw [look_yes hr 0 1 (by omega) (by omega)]

theorem rt_refs {g : List Rl} {e : Ex} (hr : Rt g e) : ∀ s, ((4 : Int), s) ∈ preE e → 0 ≤ fnd g s.data.toList := by
  induction hr with
  | mk k a b c d t ks _ h4 _ ih =>
    intro s hs
    rw [preE, List.mem_cons] at hs
    rcases hs with hs | hs
    · injection hs with e1 e2
      rw [e2]
      exact h4 e1.symm
    · have : ∀ l : List Ex, (∀ x ∈ l, x ∈ ks) → ((4 : Int), s) ∈ preEs l → 0 ≤ fnd g s.data.toList := by
        intro l
        induction l with
        | nil => intro _ h; rw [preEs] at h; cases h
        | cons x l ihl =>
          intro hm h
          rw [preEs, List.mem_append] at h
          rcases h with h | h
          · exact ih x (hm x (by simp)) s h
          · exact ihl (fun y hy => hm y (by simp [hy])) h
      exact this ks (fun x hx => hx) hs
theorem known1_yes {g : List Rl} : ∀ {l : List ByteArray}, (∀ s ∈ l, 0 ≤ fnd g s.data.toList) → known1 g l = true
  | [], _ => by rw [known1]
  | x :: l, h => by
    rw [known1, if_neg (by have := h x (by simp); omega)]
    exact known1_yes fun s hs => h s (by simp [hs])
theorem chk2_yes {g : List Rl} : ∀ {l : List Rl}, (∀ r ∈ l, Rt g r.2) → chk2 g l = 0
  | [], _ => by rw [chk2]
  | r :: l, h => by
    have h1 : known1 g (refsC r.2) = true := known1_yes fun s hs => by
      unfold refsC at hs
      split at hs
      · exact rt_refs (h r (by simp)) s ((mem_refsE _ _).1 hs)
      · cases hs
    rw [chk2, if_neg (by rw [h1]; decide)]
    exact chk2_yes fun r' hr' => h r' (by simp [hr'])
theorem chk1_yes {g : List Rl} : ∀ {l : List Rl} {i all : Nat}, (∀ r ∈ l, nameB r.1.data.toList = true ∧ checkE r.2 = 0) → (∀ (j : Nat) (r : Rl), l[j]? = some r → fnd g r.1.data.toList = ((i + j : Nat) : Int)) → chk1 g l i all = (0, all + (l.map fun r => nodes r.2).sum)
  | [], i, all, _, _ => by simp [chk1]
  | x :: l, i, all, h1, h2 => by
    have := h2 0 x rfl
    rw [chk1, if_neg (by rw [(h1 x (by simp)).1]; decide), if_neg (by rw [this]; simp), if_neg (by rw [(h1 x (by simp)).2]; decide), chk1_yes (fun r hr => h1 r (by simp [hr])) fun j r hr => by rw [h2 (j + 1) r (by simpa using hr)]; congr 1; omega]
    simp only [List.map_cons, List.sum_cons]
    rw [Nat.add_assoc]
/-- what is right says Check -/
theorem check_of {g : List Rl} (R : RightG g) : checkG g = 0 := by
  have h1 := chk1_yes (g := g) (l := g) (i := 0) (all := 0) (fun r hr => ⟨R.named r hr, R.body r hr⟩) fun j r hr => by rw [R.once j r hr, Nat.zero_add]
  unfold checkG
  have := R.pos
  have := R.ten
  have := R.nodes
  rw [if_neg (by omega), if_neg (by omega), h1, if_neg (by simp), if_neg (by simp only; omega), chk2_yes R.rt]

theorem fa_anti {x y : Fa} (h : faOrd.le x y) (h' : faOrd.le y x) : x = y := by
  obtain ⟨a, b, c⟩ := x
  obtain ⟨d, e, f⟩ := y
  obtain ⟨h1, h2, h3⟩ := h
  obtain ⟨k1, k2, k3⟩ := h'
  simp only at h1 h2 h3 k1 k2 k3
  rw [Bool.eq_iff_iff.2 ⟨h1, k1⟩, Bool.eq_iff_iff.2 ⟨h2, k2⟩, Bool.eq_iff_iff.2 ⟨h3, k3⟩]
theorem leL_anti {l m : List Fa} (h : LeL faOrd l m) (h' : LeL faOrd m l) : l = m := by
  refine List.ext_getElem? fun i => ?_
  by_cases hi : i < l.length
  · have hj : i < m.length := by rw [← h.1]; exact hi
    rw [List.getElem?_eq_getElem hi, List.getElem?_eq_getElem hj, fa_anti (h.2 i _ _ (List.getElem?_eq_getElem hi) (List.getElem?_eq_getElem hj)) (h'.2 i _ _ (List.getElem?_eq_getElem hj) (List.getElem?_eq_getElem hi))]
  · rw [List.getElem?_eq_none (by omega), List.getElem?_eq_none (by rw [← h.1]; omega)]

/-- each rule stands for the like one -/
structure LikG (g h : List Rl) : Prop where
  len : h.length = g.length
  at_ : ∀ (i : Nat) (r : Rl), g[i]? = some r → ∃ r', h[i]? = some r' ∧ r'.1 = r.1 ∧ Lik g (factsG g) r.2 r'.2
section
variable {g h : List Rl}
theorem LikG.back (L : LikG g h) {i : Nat} {r' : Rl} (hr : h[i]? = some r') : ∃ r, g[i]? = some r ∧ r'.1 = r.1 ∧ Lik g (factsG g) r.2 r'.2 := by
  have hi := getElem?_lt hr
  rw [L.len] at hi
  obtain ⟨r2, h1, h2, h3⟩ := L.at_ i _ (List.getElem?_eq_getElem hi)
  rw [hr] at h1
  injection h1 with h1
  subst h1
  exact ⟨_, List.getElem?_eq_getElem hi, h2, h3⟩
theorem LikG.names (L : LikG g h) : h.map Prod.fst = g.map Prod.fst := by
  refine List.ext_getElem? fun i => ?_
  rw [List.getElem?_map, List.getElem?_map]
  cases hg : g[i]? with
  | none =>
    have : h[i]? = none := List.getElem?_eq_none (by rw [L.len]; exact List.getElem?_eq_none_iff.1 hg)
    rw [this]
  | some r =>
    obtain ⟨r', h1, h2, _⟩ := L.at_ i r hg
    rw [h1]
    simp [h2]
theorem LikG.fnd (L : LikG g h) (t : List UInt8) : fnd h t = fnd g t := fndFrom_names L.names t 0
theorem LikG.nxF (L : LikG g h) {kn : List Fa} (hk : LeL faOrd kn (factsG g)) (i : Nat) : nxF h kn i = nxF g kn i := by
  unfold Go.Proofs.Ytefechceoeeonaa.nxF
  cases hg : g[i]? with
  | none =>
    have : h[i]? = none := List.getElem?_eq_none (by rw [L.len]; exact List.getElem?_eq_none_iff.1 hg)
    rw [this]
  | some r =>
    obtain ⟨r', h1, _, h3⟩ := L.at_ i r hg
    rw [h1]
    simp only
    rw [ofE_fnd L.fnd, h3.fa kn hk]
theorem LikG.facts (L : LikG g h) : factsG h = factsG g := by
  have hlen : (factsG h).length = (factsG g).length := by rw [facts_len, facts_len, L.len]
  have h1 : LeL faOrd (factsG h) (factsG g) := facts_least h (by rw [facts_len, L.len]) fun i y hy => by
    rw [L.nxF (LeL.refl _ _)]
    have hi := getElem?_lt hy
    rw [facts_len] at hi
    rw [facts_fix g i hi] at hy
    injection hy with hy
    rw [hy]
    exact faOrd.refl _
  have h2 : LeL faOrd (factsG g) (factsG h) := facts_least g (by rw [facts_len, L.len]) fun i y hy => by
    rw [← L.nxF h1]
    have hi := getElem?_lt hy
    rw [facts_len] at hi
    rw [facts_fix h i hi] at hy
    injection hy with hy
    rw [hy]
    exact faOrd.refl _
  exact leL_anti h1 h2
theorem LikG.right (W : WellG g) (L : LikG g h) (hn : nodesG h ≤ nodesG g) : RightG h := by
  have R := W.right
  refine ⟨by rw [L.len]; exact R.pos, by rw [L.len]; exact R.ten, Nat.le_trans hn R.nodes, fun r' hr => ?_, fun j r' hr => ?_, fun r' hr => ?_, fun r' hr => ?_⟩
  · obtain ⟨i, hi⟩ := List.getElem?_of_mem hr
    obtain ⟨r, h1, h2, _⟩ := L.back hi
    rw [h2]; exact R.named r (List.mem_of_getElem? h1)
  · obtain ⟨r, h1, h2, _⟩ := L.back hr
    rw [L.fnd, h2]; exact R.once j r h1
  · obtain ⟨i, hi⟩ := List.getElem?_of_mem hr
    obtain ⟨r, h1, _, h3⟩ := L.back hi
    exact check_less (R.body r (List.mem_of_getElem? h1)) h3.good.rt h3.sz h3.dp
  · obtain ⟨i, hi⟩ := List.getElem?_of_mem hr
    obtain ⟨r, _, _, h3⟩ := L.back hi
    exact rt_fnd L.fnd h3.good.rt
theorem badLoop_no {fs : List Fa} : ∀ {l : List Rl} {i : Nat}, (∀ r ∈ l, loopsE h fs r.2 = false) → badLoop h fs l i = none
  | [], _, _ => rfl
  | r :: l, i, hh => by rw [badLoop, hh r (by simp), if_neg (by decide), badLoop_no fun r' hr' => hh r' (by simp [hr'])]
theorem badLeft_no : ∀ {l : List Bool} {i : Nat}, (∀ j, j < l.length → l[j]? = some true) → badLeft l i = none
  | [], _, _ => rfl
  | b :: l, i, hh => by
    have h0 := hh 0 (by simp)
    simp at h0
    subst h0
    rw [badLeft, if_neg (by decide), badLeft_no fun j hj => by have := hh (j + 1) (by simpa using hj); simpa using this]
theorem well_yes (W : WellG g) : wellG g = (0, 0) := by
  unfold wellG
  rw [if_neg (by rw [check_of W.right]; decide), badLoop_no W.noloop]
  simp only
  rw [badLeft_no fun j hj => W.known j (by rw [known_len] at hj; exact hj)]
/-- as well as it was -/
theorem LikG.well (W : WellG g) (L : LikG g h) (hn : nodesG h ≤ nodesG g) : WellG h := by
  refine ⟨L.right W hn, fun r' hr => ?_, fun i hi => ?_⟩
  · obtain ⟨i, hi⟩ := List.getElem?_of_mem hr
    obtain ⟨r, _, _, h3⟩ := L.back hi
    rw [L.facts, loopsE_fnd L.fnd]
    exact h3.good.noloop
  · rw [L.facts]
    have hfix : ∀ j, j < h.length → (knownG h (factsG g))[j]? = some (nxB h (factsG g) (knownG h (factsG g)) j) := fun j hj => by
      unfold knownG
      exact grow_fix (nxB_mono h (factsG g) h.length) _ _ (by simp) (low_zeroB h (factsG g)) (by omega) j hj
    have htl : (knownG h (factsG g)).length = g.length := by rw [known_len, L.len]
    have hle : LeL boOrd (knownG g (factsG g)) (knownG h (factsG g)) := by
      generalize htop : knownG h (factsG g) = top at hfix htl
      unfold knownG
      refine grow_least (nxB_mono g (factsG g) g.length) htl (fun j y hy => ?_) _ _ (by simp) ⟨by simp [htl], fun j x y hx _ => ?_⟩
      · have hj := getElem?_lt hy
        rw [htl] at hj
        rw [hfix j (by rw [L.len]; exact hj)] at hy
        injection hy with hy
        intro hs
        rw [← hy]
        unfold nxB at hs ⊢
        obtain ⟨r', h1, _, h3⟩ := L.at_ j _ (List.getElem?_eq_getElem hj)
        rw [List.getElem?_eq_getElem hj] at hs
        rw [h1]
        simp only at hs ⊢
        rw [soundE_fnd L.fnd]
        exact h3.so _ hs
      · rw [List.getElem?_replicate] at hx
        split at hx
        · injection hx with hx; subst hx; intro h; cases h
        · cases hx
    rw [L.len] at hi
    have h1 := W.known i hi
    obtain ⟨y, hy⟩ : ∃ y, (knownG h (factsG g))[i]? = some y := ⟨_, List.getElem?_eq_getElem (by rw [htl]; exact hi)⟩
    rw [hy, hle.2 i _ _ h1 hy rfl]
/-- what it comes to the other comes to -/
theorem LikG.ev (W : WellG g) (L : LikG g h) (s : List UInt8) : ∀ n,
    (∀ e p o, Rt g e → p ≤ s.length → ev h s n e p = some o → Sem g s e p o) ∧ (∀ es p o, (∀ e ∈ es, Rt g e) → p ≤ s.length → evS h s n es p = some o → SemS g s es p o) ∧
    (∀ es p o, (∀ e ∈ es, Rt g e) → p ≤ s.length → evA h s n es p = some o → SemA g s es p o) ∧ (∀ e p o, Rt g e → p ≤ s.length → evR h s n e p = some o → SemR g s e p o) := by
  have H := fits_of W.right
  intro n
  induction n using Nat.strongRecOn with
  | _ n ih =>
  cases n with
  | zero => exact ⟨fun e p o _ _ h => (by cases h), fun es p o _ _ h => (by cases h), fun es p o _ _ h => (by cases h), fun e p o _ _ h => (by cases h)⟩
  | succ n =>
    obtain ⟨i1, i2, i3, i4⟩ := ih n (by omega)
    refine ⟨?_, ?_, ?_, ?_⟩
    · intro e p o hr hp hh
      cases hr with
      | mk k a b c d t ks hf hn hk =>
      rw [ev_s] at hh
      rcases fit_cases hf with ⟨rfl, hl⟩ | ⟨rfl, hl⟩ | ⟨rfl, hl, _⟩ | ⟨rfl, hl, _⟩ | ⟨rfl, _⟩ | ⟨rfl, _⟩ | ⟨h7, h11, hl⟩
      · exact ⟨1, by rw [ev_s, if_pos rfl]; exact hh⟩
      · exact ⟨1, by rw [ev_s, if_neg (by decide), if_pos rfl]; exact hh⟩
      · exact ⟨1, by rw [ev_s, if_neg (by decide), if_neg (by decide), if_pos rfl]; exact hh⟩
      · rw [if_neg (by decide), if_neg (by decide), if_neg (by decide), if_pos rfl, L.fnd] at hh
        obtain ⟨r, hr, _⟩ := fnd_at (hn rfl)
        obtain ⟨r', h1, _, h3⟩ := L.at_ _ r hr
        rw [h1] at hh
        have h4 := i1 _ _ _ h3.good.rt hp hh
        obtain ⟨m, o', h5⟩ := ends (s := s) W hp (W.good (List.mem_of_getElem? hr))
        have h6 := h3.sem s p o' hp ⟨m, h5⟩
        have := h4.eq h6
        subst this
        exact ⟨m + 1, by rw [ev_s, if_neg (by decide), if_neg (by decide), if_neg (by decide), if_pos rfl, hr]; exact h5⟩
      · rw [if_neg (by decide), if_neg (by decide), if_neg (by decide), if_neg (by decide), if_pos rfl] at hh
        exact sem5.2 (i2 _ _ _ hk hp hh)
      · rw [if_neg (by decide), if_neg (by decide), if_neg (by decide), if_neg (by decide), if_neg (by decide), if_pos rfl] at hh
        exact sem6.2 (i3 _ _ _ hk hp hh)
      · rw [if_neg (by omega), if_neg (by omega), if_neg (by omega), if_neg (by omega), if_neg (by omega), if_neg (by omega)] at hh
        obtain ⟨x, rfl⟩ := one_of hl
        have hx := hk x (by simp)
        have h' : evK h s n k x p = some o := hh
        cases n with
        | zero => cases h'
        | succ n =>
          obtain ⟨j1, j2, j3, j4⟩ := ih n (by omega)
          rw [evK_s] at h'
          by_cases h7' : k = 7
          · subst h7'
            rw [if_pos rfl] at h'
            exact sem7.2 (j4 _ _ _ hx hp h')
          rw [if_neg h7'] at h'
          cases he : Go.Proofs.Ytefechceoeeonaa.ev h s n x p with
          | none => rw [he] at h'; cases h'
          | some u =>
            have hs := j1 _ _ _ hx hp he
            rw [he] at h'
            by_cases h8 : k = 8
            · subst h8
              rw [sem8]
              cases u with
              | none => simp at h'; exact .inl ⟨hs, h'.symm⟩
              | some q => simp only [if_pos] at h'; exact .inr ⟨q, hs, j4 _ _ _ hx (sem_le H hx hp hs).2 h'⟩
            · rw [sem9 (by omega) h11]
              refine ⟨u, hs, ?_⟩
              cases u with
              | none =>
                simp only at h'
                injection h' with h'
                rw [← h', lookK]
                by_cases h10 : k = 10
                · rw [if_pos (.inr h10), if_pos h10]
                · rw [if_neg (by omega), if_neg h10]
              | some q =>
                simp only [lookK] at h' ⊢
                rw [if_neg h8] at h'
                by_cases h9 : k = 9
                · rw [if_pos h9] at h' ⊢; injection h' with h'; exact h'.symm
                rw [if_neg h9] at h' ⊢
                by_cases h10 : k = 10
                · rw [if_pos h10] at h' ⊢; injection h' with h'; exact h'.symm
                · rw [if_neg h10] at h' ⊢; injection h' with h'; exact h'.symm
    · intro es p o hr hp hh
      cases es with
      | nil => rw [evS_nil] at hh; injection hh with hh; exact semS_nil.2 hh.symm
      | cons e es =>
        rw [evS_cons] at hh
        cases he : Go.Proofs.Ytefechceoeeonaa.ev h s n e p with
        | none => rw [he] at hh; cases hh
        | some u =>
          have hs := i1 _ _ _ (hr e (by simp)) hp he
          rw [he] at hh
          cases u with
          | none => injection hh with hh; exact semS_cons.2 (.inr ⟨hs, hh.symm⟩)
          | some q => exact semS_cons.2 (.inl ⟨q, hs, i2 _ _ _ (fun x hx => hr x (by simp [hx])) (sem_le H (hr e (by simp)) hp hs).2 hh⟩)
    · intro es p o hr hp hh
      cases es with
      | nil => rw [evA_nil] at hh; injection hh with hh; exact semA_nil.2 hh.symm
      | cons e es =>
        rw [evA_cons] at hh
        cases he : Go.Proofs.Ytefechceoeeonaa.ev h s n e p with
        | none => rw [he] at hh; cases hh
        | some u =>
          have hs := i1 _ _ _ (hr e (by simp)) hp he
          rw [he] at hh
          cases u with
          | none => exact semA_cons.2 (.inl ⟨hs, i3 _ _ _ (fun x hx => hr x (by simp [hx])) hp hh⟩)
          | some q => injection hh with hh; exact semA_cons.2 (.inr ⟨q, hs, hh.symm⟩)
    · intro e p o hr hp hh
      rw [evR_s] at hh
      cases he : Go.Proofs.Ytefechceoeeonaa.ev h s n e p with
      | none => rw [he] at hh; cases hh
      | some u =>
        have hs := i1 _ _ _ hr hp he
        rw [he] at hh
        cases u with
        | none => injection hh with hh; exact semR_iff.2 (.inl ⟨hs, hh.symm⟩)
        | some q => exact semR_iff.2 (.inr ⟨q, hs, i4 _ _ _ hr (sem_le H hr hp hs).2 hh⟩)
end
/-- the same by name, as well, with the same facts, no more nodes, and doing the same -/
structure SimEq (g h : List Rl) : Prop where
  well : WellG h
  len : h.length = g.length
  facts : factsG h = factsG g
  nodes : nodesG h ≤ nodesG g
  at_ : ∀ (i : Nat) (r : Rl), g[i]? = some r → ∃ r', h[i]? = some r' ∧ r'.1 = r.1 ∧ ∀ (s : List UInt8) p o, p ≤ s.length → Sem h s r'.2 p o → Sem g s r.2 p o
theorem SimEq.refl {g : List Rl} (W : WellG g) : SimEq g g := ⟨W, rfl, rfl, Nat.le_refl _, fun _ r hr => ⟨r, hr, rfl, fun _ _ _ _ h => h⟩⟩
theorem SimEq.trans {g h k : List Rl} (a : SimEq g h) (b : SimEq h k) : SimEq g k :=
  ⟨b.well, b.len.trans a.len, b.facts.trans a.facts, Nat.le_trans b.nodes a.nodes, fun i r hr => by
    obtain ⟨r', h1, h2, h3⟩ := a.at_ i r hr
    obtain ⟨r2, h4, h5, h6⟩ := b.at_ i r' h1
    exact ⟨r2, h4, h5.trans h2, fun s p o hp hs => h3 s p o hp (h6 s p o hp hs)⟩⟩
theorem LikG.sim {g h : List Rl} (W : WellG g) (L : LikG g h) (hn : nodesG h ≤ nodesG g) : SimEq g h :=
  ⟨L.well W hn, L.len, L.facts, hn, fun i r hr => by
    obtain ⟨r', h1, h2, h3⟩ := L.at_ i r hr
    refine ⟨r', h1, h2, fun s p o hp ⟨n, hs⟩ => ?_⟩
    have h4 := (L.ev W s n).1 _ _ _ h3.good.rt hp hs
    obtain ⟨m, o', h5⟩ := ends (s := s) W hp (W.good (List.mem_of_getElem? hr))
    have h6 := h4.eq (h3.sem s p o' hp ⟨m, h5⟩)
    rw [h6]
    exact ⟨m, h5⟩⟩
theorem simG_lik {g : List Rl} (W : WellG g) : LikG g (simG g).1 := by
  unfold simG
  refine ⟨by simp, fun i r hr => ⟨(r.1, (simE g (factsG g) r.2).1), by rw [List.getElem?_map, hr]; rfl, rfl, sim_lik (fits_of W.right) r.2 (W.good (List.mem_of_getElem? hr))⟩⟩
theorem simG_eq {g : List Rl} (W : WellG g) : SimEq g (simG g).1 := (simG_lik W).sim W (simG_sz g).1
/-- in the end nothing is left to be made simpler -/
theorem simN_end : ∀ (n : Nat) {g : List Rl}, WellG g → nodesG g < n → SimEq g (simN n g) ∧ (simG (simN n g)).2 = false
  | 0, g, _, h => by omega
  | n + 1, g, W, h => by
    have h1 := simG_eq W
    have h2 := (simG_sz g).2
    unfold simN
    by_cases hm : (simG g).2 = true
    · rw [if_pos hm]
      obtain ⟨i1, i2⟩ := simN_end n h1.well (by have := h2 hm; omega)
      exact ⟨h1.trans i1, i2⟩
    · rw [if_neg hm]
      refine ⟨h1, ?_⟩
      rw [simG_same W.right.rt (by simpa using hm)]
      simpa using hm
theorem simp_end {g : List Rl} (W : WellG g) : SimEq g (simpG g) ∧ (simG (simpG g)).2 = false := simN_end _ W (by omega)
/-- once more it is the same -/
theorem simp_twice {g : List Rl} (W : WellG g) : simpG (simpG g) = simpG g := by
  obtain ⟨h1, h2⟩ := simp_end W
  generalize simpG g = h at h1 h2
  unfold simpG
  rw [simN, if_neg (by rw [h2]; decide), simG_same h1.well.right.rt h2]
theorem simp_plain {g : List Rl} (W : WellG g) : ∀ r ∈ simpG g, plnE r.2 = true := fun r hr => by
  obtain ⟨h1, h2⟩ := simp_end W
  unfold simG at h2
  simp only [List.any_eq_false] at h2
  exact sim_pln r.2 (h1.well.right.rt r hr) (by simpa using h2 r hr)
/-- it does the same everywhere -/
theorem at_sim {g h : List Rl} (W : WellG g) (E : SimEq g h) {i : Int} {s : ByteArray} {p : Int} {v v' : Option Nat} {x x' : Int} (h1 : AtR g i s p v x) (h2 : AtR h i s p v' x') : v = v' ∧ x = x' := by
  have hl : lookG h s = lookG g s := by unfold lookG; rw [well_yes W, well_yes E.well]
  unfold AtR at h1 h2
  rw [hl, E.len] at h2
  rcases h1 with ⟨a1, a2, a3⟩ | ⟨a1, a2, a3, a4⟩ | ⟨a1, j, q, r, o, e1, e2, e3, e4, e5, e6, e7⟩
  · rcases h2 with ⟨b1, b2, b3⟩ | ⟨b1, _⟩ | ⟨b1, _⟩
    · exact ⟨a2.trans b2.symm, a3.trans b3.symm⟩
    · exact absurd b1 a1
    · exact absurd b1 a1
  · rcases h2 with ⟨b1, _⟩ | ⟨_, _, b3, b4⟩ | ⟨b1, j, q, r, o, e1, e2, e3, e4, _⟩
    · exact absurd a1 b1
    · exact ⟨a3.trans b3.symm, a4.trans b4.symm⟩
    · have := getElem?_lt e4
      rw [E.len] at this
      omega
  · rcases h2 with ⟨b1, _⟩ | ⟨b1, b2, _⟩ | ⟨b1, j', q', r', o', f1, f2, f3, f4, f5, f6, f7⟩
    · exact absurd a1 b1
    · have := getElem?_lt e4
      omega
    · obtain rfl : j = j' := by omega
      obtain rfl : q = q' := by omega
      obtain ⟨r2, g1, _, g3⟩ := E.at_ j r e4
      rw [f4] at g1
      injection g1 with g1
      subst g1
      have := e5.eq (g3 _ _ _ (by rw [size_list]; exact e3) f5)
      subst this
      exact ⟨e6.trans f6.symm, e7.trans f7.symm⟩
/-- numbers stay of their width -/
theorem wf_ofN {k : Int} (h : 0 ≤ k ∧ k ≤ 100) {ks : List Ex} (hk : ∀ e ∈ ks, WfE e) : WfE (ofN k ks) := .mk _ _ _ _ _ _ _ (by unfold I64; omega) (by unfold U64; omega) (by unfold U64; omega) (by unfold U64; omega) (by unfold U64; omega) hk
theorem WfE.kid {e : Ex} (h : WfE e) : ∀ x ∈ e.ks, WfE x := by cases h with | mk _ _ _ _ _ _ _ _ _ _ _ _ hk => exact hk
theorem wf_list {g : List Rl} {fs : List Fa} {k : Int} : ∀ xs l : List Ex, (∀ e ∈ l, WfE e) → (∀ e ∈ xs, WfE e) → ∀ e ∈ (listS g fs k xs l).1, WfE e
  | [], l, hl, _ => by simpa [listS] using hl
  | x :: xs, l, hl, hx => by
    have hxs : ∀ e ∈ xs, WfE e := fun e he => hx e (by simp [he])
    have hm : ∀ e ∈ l ++ (if flatB k x l xs = true then x.ks else [x]), WfE e := fun e he => by
      rcases List.mem_append.1 he with he | he
      · exact hl e he
      · split at he
        · exact (hx x (by simp)).kid e he
        · simp only [List.mem_singleton] at he; rw [he]; exact hx x (by simp)
    unfold listS
    split
    · exact wf_list xs l hl hxs
    split
    · exact hm
    · exact wf_list xs _ hm hxs
theorem wf_sim {g : List Rl} {fs : List Fa} (e : Ex) : WfE e → WfE (simE g fs e).1 := by
  refine Ex.ind (P := fun e => WfE e → WfE (simE g fs e).1) ?_ e
  intro k a b c d t ks ih hw
  cases hw with
  | mk _ _ _ _ _ _ _ hk ha hb hc hd hks =>
  have h1 : ∀ e ∈ (simEs g fs ks).1, WfE e := fun e he => by
    rw [simEs_map] at he
    obtain ⟨x, hx, rfl⟩ := List.mem_map.1 he
    exact ih x hx (hks x hx)
  unfold simE
  generalize (simEs g fs ks).1 = l at h1
  split
  · have h2 := wf_list (g := g) (fs := fs) (k := k) l [] (fun e he => by cases he) h1
    generalize listS g fs k l [] = r at h2
    match r, h2 with
    | ([], m), _ => exact wf_ofN (by omega) fun e he => by cases he
    | ([y], m), h2 => exact h2 y (by simp)
    | (y :: z :: l, m), h2 => exact .mk _ _ _ _ _ _ _ hk ha hb hc hd h2
  split
  · match l, h1 with
    | [], h1 => exact .mk _ _ _ _ _ _ _ hk ha hb hc hd h1
    | .mk k2 a2 b2 c2 d2 t2 l2 :: xs, h1 =>
      have hx := h1 _ (List.mem_cons_self)
      rw [single_two]
      split
      · exact wf_ofN (by omega) hx.kid
      split
      · exact wf_ofN (by omega) hx.kid
      split
      · exact hx
      split
      · exact wf_ofN (by omega) hx.kid
      · exact .mk _ _ _ _ _ _ _ hk ha hb hc hd h1
  · exact .mk _ _ _ _ _ _ _ hk ha hb hc hd h1
theorem wf_simG {g : List Rl} (h : ∀ r ∈ g, WfE r.2) : ∀ r ∈ (simG g).1, WfE r.2 := fun r hr => by
  unfold simG at hr
  obtain ⟨r0, h0, rfl⟩ := List.mem_map.1 hr
  exact wf_sim r0.2 (h r0 h0)
theorem wf_simN : ∀ (n : Nat) {g : List Rl}, (∀ r ∈ g, WfE r.2) → ∀ r ∈ simN n g, WfE r.2
  | 0, _, h => h
  | n + 1, g, h => by
    unfold simN
    split
    · exact wf_simN n (wf_simG h)
    · exact wf_simG h
end Go.Proofs.Ytefechceoeeonaa
