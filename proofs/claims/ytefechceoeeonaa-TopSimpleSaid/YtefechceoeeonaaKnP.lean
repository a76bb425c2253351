/- With fewer kinds of expressions a grammar is as well as it was, has the same facts, and means the same: plain. -/
import Derived.Test.YtefechceoeeonaaKnC
import Derived.Test.YtefechceoeeonaaSeM
namespace Go.Proofs.Ytefechceoeeonaa
open Go.RowKit

theorem ker_fndFrom : ∀ (g : List Rl) (s : List UInt8) (i : Nat), fndFrom (kerG g) s i = fndFrom g s i
  | [], _, _ => rfl
  | r :: g, s, i => by
    show fndFrom ((r.1, kerE r.2) :: kerG g) s i = _
    rw [fndFrom, fndFrom, ker_fndFrom g s (i + 1)]
theorem ker_fnd (g : List Rl) (s : List UInt8) : fnd (kerG g) s = fnd g s := ker_fndFrom g s 0
theorem ker_at (g : List Rl) (i : Nat) : (kerG g)[i]? = (g[i]?).map fun r => (r.1, kerE r.2) := by unfold kerG; rw [List.getElem?_map]
/-- what stands of each kind -/
theorem kerE_kind {k a b c d : Int} {t : ByteArray} {ks : List Ex} (h : fitB k a b c d t.data.toList ks.length = true) :
    (kerE (.mk k a b c d t ks) = .mk k a b c d t (ks.map kerE) ∧ k ≠ 8 ∧ k ≠ 9 ∧ k ≠ 10) ∨ (∃ x, ks = [x] ∧ ((k = 8 ∧ kerE (.mk k a b c d t ks) = ofN 5 [kerE x, ofN 7 [kerE x]]) ∨ (k = 9 ∧ kerE (.mk k a b c d t ks) = ofN 6 [kerE x, .mk 1 0 0 0 0 ⟨#[]⟩ []]) ∨ (k = 10 ∧ kerE (.mk k a b c d t ks) = ofN 11 [ofN 11 [kerE x]]))) := by
  by_cases h8 : k = 8 ∨ k = 9 ∨ k = 10
  · have h1 : ks.length = 1 := by rcases fit_cases h with x | x | x | x | x | x | x <;> omega
    obtain ⟨x, rfl⟩ := one_of h1
    refine .inr ⟨x, rfl, ?_⟩
    rcases h8 with rfl | rfl | rfl
    · exact .inl ⟨rfl, by rw [kerE, if_pos rfl, kerEs_map]; rfl⟩
    · exact .inr (.inl ⟨rfl, by rw [kerE, if_neg (by decide), if_pos rfl, kerEs_map]; rfl⟩)
    · exact .inr (.inr ⟨rfl, by rw [kerE, if_neg (by decide), if_neg (by decide), if_pos rfl, kerEs_map]; rfl⟩)
  · have a8 : k ≠ 8 := fun e => h8 (.inl e)
    have a9 : k ≠ 9 := fun e => h8 (.inr (.inl e))
    have a10 : k ≠ 10 := fun e => h8 (.inr (.inr e))
    exact .inl ⟨by rw [kerE, if_neg a8, if_neg a9, if_neg a10, kerEs_map], a8, a9, a10⟩
theorem ofEs_ker {g : List Rl} {kn : List Fa} : ∀ {ks : List Ex}, (∀ e ∈ ks, ofE (kerG g) kn (kerE e) = ofE g kn e) → ofEs (kerG g) kn (ks.map kerE) = ofEs g kn ks
  | [], _ => by rw [List.map_nil, ofEs, ofEs]
  | e :: es, h => by rw [List.map_cons, ofEs, ofEs, h e (by simp), ofEs_ker fun e he => h e (by simp [he])]
theorem of_ker {g : List Rl} (kn : List Fa) {e : Ex} (h : Rt g e) : ofE (kerG g) kn (kerE e) = ofE g kn e := by
  induction h with
  | mk k a b c d t ks hf _ _ ih =>
    rcases kerE_kind hf with ⟨h1, h8, h9, h10⟩ | ⟨x, rfl, h1 | h1 | h1⟩
    · rw [h1, ofE, ofE, ofEs_ker ih, ker_fnd]
    · obtain ⟨rfl, h1⟩ := h1
      rw [h1]
      have hx := ih x (by simp)
      have h7 : ofE (kerG g) kn (ofN 7 [kerE x]) = starF (ofE g kn x) := by
        unfold ofN
        rw [ofE, if_neg (by decide), if_neg (by decide), if_neg (by decide), if_neg (by decide), if_neg (by decide), if_neg (by decide), if_pos rfl, ofEs, ofEs, kid0, hx]
      have h5 : ofE (kerG g) kn (ofN 5 [kerE x, ofN 7 [kerE x]]) = thenF (ofE g kn x) (starF (ofE g kn x)) := by
        unfold ofN at h7 ⊢
        rw [ofE, if_neg (by decide), if_neg (by decide), if_neg (by decide), if_neg (by decide), if_pos rfl, ofEs, ofEs, ofEs, seqF, h7, hx]
        rfl
      rw [h5, ofE, if_neg (by decide), if_neg (by decide), if_neg (by decide), if_neg (by decide), if_neg (by decide), if_neg (by decide), if_neg (by decide), if_pos rfl, ofEs, ofEs, kid0]
    · obtain ⟨rfl, h1⟩ := h1
      rw [h1]
      have hx := ih x (by simp)
      have h5 : ofE (kerG g) kn (ofN 6 [kerE x, .mk 1 0 0 0 0 ⟨#[]⟩ []]) = orF (ofE g kn x) ⟨true, false, false⟩ := by
        unfold ofN
        rw [ofE, if_neg (by decide), if_neg (by decide), if_neg (by decide), if_neg (by decide), if_neg (by decide), if_pos rfl, ofEs, ofEs, ofEs, altF, altF, of_zero, hx]
      rw [h5, ofE, if_neg (by decide), if_neg (by decide), if_neg (by decide), if_neg (by decide), if_neg (by decide), if_neg (by decide), if_neg (by decide), if_neg (by decide), if_pos rfl, ofEs, ofEs, kid0]
    · obtain ⟨rfl, h1⟩ := h1
      rw [h1]
      have hx := ih x (by simp)
      have h11 : ∀ y, ofE (kerG g) kn (ofN 11 [y]) = ⟨(ofE (kerG g) kn y).f, false, (ofE (kerG g) kn y).e || (ofE (kerG g) kn y).a⟩ := fun y => by
        unfold ofN
        rw [ofE, if_neg (by decide), if_neg (by decide), if_neg (by decide), if_neg (by decide), if_neg (by decide), if_neg (by decide), if_neg (by decide), if_neg (by decide), if_neg (by decide), if_neg (by decide), ofEs, ofEs, kid0]
      rw [h11, h11, hx, ofE, if_neg (by decide), if_neg (by decide), if_neg (by decide), if_neg (by decide), if_neg (by decide), if_neg (by decide), if_neg (by decide), if_neg (by decide), if_neg (by decide), if_pos rfl, ofEs, ofEs, kid0, Bool.or_false]
theorem nxF_ker {g : List Rl} (hR : ∀ r ∈ g, Rt g r.2) : nxF (kerG g) = nxF g := by
  funext kn i
  unfold nxF
  rw [ker_at]
  cases hr : g[i]? with
  | none => rfl
  | some r => exact of_ker kn (hR r (List.mem_of_getElem? hr))
theorem facts_ker {g : List Rl} (hR : ∀ r ∈ g, Rt g r.2) : factsG (kerG g) = factsG g := by
  unfold factsG
  rw [nxF_ker hR, kerG_len]
theorem loopsEs_ker {g : List Rl} {fs : List Fa} : ∀ {ks : List Ex}, (∀ e ∈ ks, loopsE (kerG g) fs (kerE e) = loopsE g fs e) → loopsEs (kerG g) fs (ks.map kerE) = loopsEs g fs ks
  | [], _ => by rw [List.map_nil, loopsEs, loopsEs]
  | e :: es, h => by rw [List.map_cons, loopsEs, loopsEs, h e (by simp), loopsEs_ker fun e he => h e (by simp [he])]
theorem loops_ker {g : List Rl} (fs : List Fa) {e : Ex} (h : Rt g e) : loopsE (kerG g) fs (kerE e) = loopsE g fs e := by
  induction h with
  | mk k a b c d t ks hf _ hk ih =>
    have hof : ∀ e ∈ ks, ofE (kerG g) fs (kerE e) = ofE g fs e := fun e he => of_ker fs (hk e he)
    rcases kerE_kind hf with ⟨h1, h8, h9, h10⟩ | ⟨x, rfl, h1 | h1 | h1⟩
    · rw [h1, loopsE, loopsE, ofEs_ker hof, loopsEs_ker ih]
    · obtain ⟨rfl, h1⟩ := h1
      rw [h1]
      have hx := ih x (by simp)
      have ho := hof x (by simp)
      unfold ofN
      simp only [loopsE, loopsEs, ofEs, kid0, hx, ho]
      cases (ofE g fs x).e <;> cases loopsE g fs x <;> rfl
    · obtain ⟨rfl, h1⟩ := h1
      rw [h1]
      have hx := ih x (by simp)
      unfold ofN
      simp only [loopsE, loopsEs, hx]
      cases loopsE g fs x <;> rfl
    · obtain ⟨rfl, h1⟩ := h1
      rw [h1]
      have hx := ih x (by simp)
      unfold ofN
      simp only [loopsE, loopsEs, hx]
      cases loopsE g fs x <;> rfl
theorem badLoop_ker {g : List Rl} (fs : List Fa) : ∀ (l : List Rl) (i : Nat), (∀ r ∈ l, Rt g r.2) → badLoop (kerG g) fs (kerG l) i = badLoop g fs l i
  | [], _, _ => rfl
  | r :: l, i, h => by
    show badLoop (kerG g) fs ((r.1, kerE r.2) :: kerG l) i = _
    rw [badLoop, badLoop, loops_ker fs (h r (by simp)), badLoop_ker fs l (i + 1) fun r hr => h r (by simp [hr])]
theorem soundS_ker {g : List Rl} {fs : List Fa} {kn : List Bool} : ∀ {ks : List Ex}, (∀ e ∈ ks, soundE (kerG g) fs kn (kerE e) = soundE g fs kn e) → (∀ e ∈ ks, ofE (kerG g) fs (kerE e) = ofE g fs e) → soundS (kerG g) fs kn (ks.map kerE) = soundS g fs kn ks
  | [], _, _ => by rw [List.map_nil, soundS, soundS]
  | e :: es, h, h' => by rw [List.map_cons, soundS, soundS, h e (by simp), h' e (by simp), soundS_ker (fun e he => h e (by simp [he])) fun e he => h' e (by simp [he])]
theorem soundA_ker {g : List Rl} {fs : List Fa} {kn : List Bool} : ∀ {ks : List Ex}, (∀ e ∈ ks, soundE (kerG g) fs kn (kerE e) = soundE g fs kn e) → soundA (kerG g) fs kn (ks.map kerE) = soundA g fs kn ks
  | [], _ => by rw [List.map_nil, soundA, soundA]
  | e :: es, h => by rw [List.map_cons, soundA, soundA, h e (by simp), soundA_ker fun e he => h e (by simp [he])]
theorem sound_1 {g : List Rl} {fs : List Fa} {kn : List Bool} {k a b c d : Int} {t : ByteArray} {x : Ex} (h4 : k ≠ 4) (h5 : k ≠ 5) : soundE g fs kn (.mk k a b c d t [x]) = soundE g fs kn x := by
  rw [soundE, if_neg h4, if_neg h5, soundA, soundA]
  cases soundE g fs kn x <;> simp
theorem sound_ker {g : List Rl} (fs : List Fa) (kn : List Bool) {e : Ex} (h : Rt g e) : soundE (kerG g) fs kn (kerE e) = soundE g fs kn e := by
  induction h with
  | mk k a b c d t ks hf _ hk ih =>
    have hof : ∀ e ∈ ks, ofE (kerG g) fs (kerE e) = ofE g fs e := fun e he => of_ker fs (hk e he)
    rcases kerE_kind hf with ⟨h1, h8, h9, h10⟩ | ⟨x, rfl, h1 | h1 | h1⟩
    · rw [h1, soundE, soundE, ker_fnd, soundS_ker ih hof, soundA_ker ih]
    · obtain ⟨rfl, h1⟩ := h1
      rw [h1]
      have hx := ih x (by simp)
      have h7 : soundE (kerG g) fs kn (ofN 7 [kerE x]) = soundE g fs kn x := (sound_1 (by decide) (by decide)).trans hx
      have h5 : soundE (kerG g) fs kn (ofN 5 [kerE x, ofN 7 [kerE x]]) = soundE g fs kn x := by
        unfold ofN at h7 ⊢
        rw [soundE, if_neg (by decide), if_pos rfl, soundS, soundS, soundS, h7, hx]
        cases soundE g fs kn x <;> simp
      rw [h5, sound_1 (by decide) (by decide)]
    · obtain ⟨rfl, h1⟩ := h1
      rw [h1]
      have hx := ih x (by simp)
      have h0 : soundE (kerG g) fs kn (.mk 1 0 0 0 0 ⟨#[]⟩ []) = true := by rw [soundE, if_neg (by decide), if_neg (by decide), soundA]
      unfold ofN
      rw [sound_1 (k := 9) (by decide) (by decide), soundE, if_neg (by decide), if_neg (by decide), soundA, soundA, soundA, hx, h0]
      cases soundE g fs kn x <;> simp
    · obtain ⟨rfl, h1⟩ := h1
      rw [h1]
      have hx := ih x (by simp)
      unfold ofN
      rw [sound_1 (by decide) (by decide), sound_1 (by decide) (by decide), sound_1 (by decide) (by decide), hx]
theorem nxB_ker {g : List Rl} (hR : ∀ r ∈ g, Rt g r.2) (fs : List Fa) : nxB (kerG g) fs = nxB g fs := by
  funext kn i
  unfold nxB
  rw [ker_at]
  cases hr : g[i]? with
  | none => rfl
  | some r => exact sound_ker fs kn (hR r (List.mem_of_getElem? hr))
/-- as well as it was -/
theorem well_ker {g : List Rl} (h0 : checkG g = 0) (h1 : checkG (kerG g) = 0) : wellG (kerG g) = wellG g := by
  have R := right_of h0
  unfold wellG
  rw [h0, h1, facts_ker R.rt, badLoop_ker _ g 0 R.rt]
  unfold knownG
  rw [nxB_ker R.rt, kerG_len]

/-- what each job comes to it comes to with fewer kinds too -/
theorem ev_ker {g : List Rl} (hR : ∀ r ∈ g, Rt g r.2) (s : List UInt8) : ∀ n,
    (∀ e p o, Rt g e → ev g s n e p = some o → Sem (kerG g) s (kerE e) p o) ∧
    (∀ es p o, (∀ e ∈ es, Rt g e) → evS g s n es p = some o → ∃ m, evS (kerG g) s m (es.map kerE) p = some o) ∧
    (∀ es p o, (∀ e ∈ es, Rt g e) → evA g s n es p = some o → ∃ m, evA (kerG g) s m (es.map kerE) p = some o) ∧
    (∀ e p o, Rt g e → evR g s n e p = some o → ∃ m, evR (kerG g) s m (kerE e) p = some o) := by
  intro n
  induction n using Nat.strongRecOn with
  | _ n ih =>
  cases n with
  | zero => exact ⟨fun e p o _ h => (by cases h), fun es p o _ h => (by cases h), fun es p o _ h => (by cases h), fun e p o _ h => (by cases h)⟩
  | succ n =>
    obtain ⟨i1, i2, i3, i4⟩ := ih n (by omega)
    refine ⟨?_, ?_, ?_, ?_⟩
    · intro e p o hr h
      cases hr with
      | mk k a b c d t ks hf hn hk =>
      rcases kerE_kind hf with ⟨h1, h8, h9, h10⟩ | ⟨x, rfl, h1⟩
      · rw [h1]
        rw [ev_s] at h
        rcases fit_cases hf with ⟨rfl, hl⟩ | ⟨rfl, hl⟩ | ⟨rfl, hl, _⟩ | ⟨rfl, hl, _⟩ | ⟨rfl, _⟩ | ⟨rfl, _⟩ | ⟨h7, h11, hl⟩
        · exact ⟨1, by rw [ev_s, if_pos rfl]; exact h⟩
        · exact ⟨1, by rw [ev_s, if_neg (by decide), if_pos rfl]; exact h⟩
        · exact ⟨1, by rw [ev_s, if_neg (by decide), if_neg (by decide), if_pos rfl]; exact h⟩
        · rw [if_neg (by decide), if_neg (by decide), if_neg (by decide), if_pos rfl] at h
          cases hg : g[(fnd g t.data.toList).toNat]? with
          | none =>
            rw [hg] at h
            exact ⟨1, by rw [ev_s, if_neg (by decide), if_neg (by decide), if_neg (by decide), if_pos rfl, ker_fnd, ker_at, hg]; exact h⟩
          | some r =>
            rw [hg] at h
            obtain ⟨m, hm⟩ := i1 _ _ _ (hR r (List.mem_of_getElem? hg)) h
            exact ⟨m + 1, by rw [ev_s, if_neg (by decide), if_neg (by decide), if_neg (by decide), if_pos rfl, ker_fnd, ker_at, hg]; exact hm⟩
        · rw [if_neg (by decide), if_neg (by decide), if_neg (by decide), if_neg (by decide), if_pos rfl] at h
          exact sem_of_S (i2 _ _ _ hk h)
        · rw [if_neg (by decide), if_neg (by decide), if_neg (by decide), if_neg (by decide), if_neg (by decide), if_pos rfl] at h
          exact sem_of_A (i3 _ _ _ hk h)
        · rw [if_neg (by omega), if_neg (by omega), if_neg (by omega), if_neg (by omega), if_neg (by omega), if_neg (by omega)] at h
          obtain ⟨x, rfl⟩ := one_of hl
          have hx := hk x (by simp)
          have h' : evK g s n k x p = some o := h
          cases n with
          | zero => cases h'
          | succ n =>
            obtain ⟨j1, j2, j3, j4⟩ := ih n (by omega)
            rw [evK_s] at h'
            have h711 : k = 7 ∨ k = 11 := by omega
            rcases h711 with rfl | rfl
            · rw [if_pos rfl] at h'
              exact sem_of_K (by decide) (semK_star (j4 _ _ _ hx h'))
            · rw [if_neg (by decide)] at h'
              cases he : ev g s n x p with
              | none => rw [he] at h'; cases h'
              | some u =>
                have hs := j1 _ _ _ hx he
                rw [he] at h'
                have := semK_not hs
                cases u with
                | none => simp at h'; subst h'; exact sem_of_K (by decide) this
                | some q1 => simp at h'; subst h'; exact sem_of_K (by decide) this
      · have hx := hk x (by simp)
        have h' : evK g s n k x p = some o := by
          rw [ev_s] at h
          rw [if_neg (by omega), if_neg (by omega), if_neg (by omega), if_neg (by omega), if_neg (by omega), if_neg (by omega)] at h
          exact h
        cases n with
        | zero => cases h'
        | succ n =>
          obtain ⟨j1, j2, j3, j4⟩ := ih n (by omega)
          rw [evK_s] at h'
          have hne7 : k ≠ 7 := by omega
          rw [if_neg hne7] at h'
          cases he : ev g s n x p with
          | none => rw [he] at h'; cases h'
          | some u =>
            have hs := j1 _ _ _ hx he
            rw [he] at h'
            rcases h1 with ⟨rfl, h1⟩ | ⟨rfl, h1⟩ | ⟨rfl, h1⟩
            · rw [h1]
              refine sem_of_S ?_
              cases u with
              | none => simp at h'; subst h'; exact semS_stop hs
              | some q1 =>
                simp only [if_pos] at h'
                have hr := sem_of_K (g := kerG g) (s := s) (a := 0) (b := 0) (c := 0) (d := 0) (t := ⟨#[]⟩) (ks := []) (by decide) (semK_star (j4 _ _ _ hx h'))
                cases o with
                | none => exact semS_next hs (semS_stop hr)
                | some q => exact semS_next hs (semS_next hr ⟨1, evS_nil _ _ _ _⟩)
            · rw [h1]
              refine sem_of_A ?_
              cases u with
              | none =>
                simp at h'
                subst h'
                exact semA_next hs (semA_stop ⟨1, by rw [ev_s, if_pos rfl]⟩)
              | some q1 =>
                simp at h'
                subst h'
                exact semA_stop hs
            · rw [h1]
              have hs1 : Sem (kerG g) s (ofN 11 [kerE x]) p (if u = none then some p else none) := sem_of_K (by decide) (semK_not hs)
              have hs2 : Sem (kerG g) s (ofN 11 [ofN 11 [kerE x]]) p (if (if u = none then some p else none) = none then some p else none) := sem_of_K (by decide) (semK_not hs1)
              cases u with
              | none => simp at h' hs2; subst h'; exact hs2
              | some q1 => simp at h' hs2; subst h'; exact hs2
    · intro es p o hr h
      cases es with
      | nil => rw [evS_nil] at h; exact ⟨1, by rw [List.map_nil, evS_nil]; exact h⟩
      | cons e es =>
        rw [evS_cons] at h
        cases he : ev g s n e p with
        | none => rw [he] at h; cases h
        | some u =>
          have hs := i1 _ _ _ (hr e (by simp)) he
          rw [he] at h
          cases u with
          | none => simp at h; subst h; exact semS_stop hs
          | some q1 => exact semS_next hs (i2 _ _ _ (fun e he => hr e (by simp [he])) h)
    · intro es p o hr h
      cases es with
      | nil => rw [evA_nil] at h; exact ⟨1, by rw [List.map_nil, evA_nil]; exact h⟩
      | cons e es =>
        rw [evA_cons] at h
        cases he : ev g s n e p with
        | none => rw [he] at h; cases h
        | some u =>
          have hs := i1 _ _ _ (hr e (by simp)) he
          rw [he] at h
          cases u with
          | none => exact semA_next hs (i3 _ _ _ (fun e he => hr e (by simp [he])) h)
          | some q1 => simp at h; subst h; exact semA_stop hs
    · intro e p o hr h
      rw [evR_s] at h
      cases he : ev g s n e p with
      | none => rw [he] at h; cases h
      | some u =>
        have hs := i1 _ _ _ hr he
        rw [he] at h
        cases u with
        | none => simp at h; subst h; exact semR_stop hs
        | some q1 => exact semR_next hs (i4 _ _ _ hr h)
theorem sem_ker {g : List Rl} (hR : ∀ r ∈ g, Rt g r.2) {s : List UInt8} {e : Ex} {p : Nat} {o : Option Nat} (hr : Rt g e) (h : Sem g s e p o) : Sem (kerG g) s (kerE e) p o := by
  obtain ⟨n, h⟩ := h
  exact (ev_ker hR s n).1 e p o hr h
theorem look_ker {g : List Rl} (h0 : checkG g = 0) (h1 : checkG (kerG g) = 0) (s : ByteArray) : lookG (kerG g) s = lookG g s := by
  unfold lookG
  rw [well_ker h0 h1]
/-- it does the same everywhere -/
theorem at_ker {g : List Rl} (h0 : checkG g = 0) (h1 : checkG (kerG g) = 0) {i : Int} {s : ByteArray} {p : Int} {v v' : Option Nat} {x x' : Int} (h : AtR g i s p v x) (h' : AtR (kerG g) i s p v' x') : v = v' ∧ x = x' := by
  unfold AtR at h h'
  rw [look_ker h0 h1, kerG_len] at h'
  rcases h with ⟨a1, a2, a3⟩ | ⟨a1, a2, a3, a4⟩ | ⟨a1, j, q, r, o, e1, e2, e3, e4, e5, e6, e7⟩
  · rcases h' with ⟨b1, b2, b3⟩ | ⟨b1, _⟩ | ⟨b1, _⟩
    · exact ⟨a2.trans b2.symm, a3.trans b3.symm⟩
    · exact absurd b1 a1
    · exact absurd b1 a1
  · rcases h' with ⟨b1, _⟩ | ⟨_, _, b3, b4⟩ | ⟨b1, j, q, r, o, e1, e2, e3, e4, _⟩
    · exact absurd a1 b1
    · exact ⟨a3.trans b3.symm, a4.trans b4.symm⟩
    · rw [ker_at, Option.map_eq_some_iff] at e4
      obtain ⟨r0, e4, _⟩ := e4
      have := getElem?_lt e4
      omega
  · rcases h' with ⟨b1, _⟩ | ⟨b1, b2, _⟩ | ⟨b1, j', q', r', o', f1, f2, f3, f4, f5, f6, f7⟩
    · exact absurd a1 b1
    · have := getElem?_lt e4
      omega
    · obtain rfl : j = j' := by omega
      obtain rfl : q = q' := by omega
      rw [ker_at, e4] at f4
      injection f4 with f4
      subst f4
      have R := right_of h0
      have := (sem_ker R.rt (R.rt r (List.mem_of_getElem? e4)) e5).eq f5
      subst this
      exact ⟨e6.trans f6.symm, e7.trans f7.symm⟩
/-- numbers stay of their width -/
theorem wf_ker {e : Ex} (h : WfE e) : WfE (kerE e) := by
  induction h with
  | mk k a b c d t ks hk ha hb hc hd _ ih =>
    have z : U64 0 := by unfold U64; omega
    have i (n : Int) (h1 : 0 ≤ n) (h2 : n ≤ 100) : I64 n := by unfold I64; omega
    have hks : ∀ x ∈ ks.map kerE, WfE x := fun x hx => by obtain ⟨e, he, rfl⟩ := List.mem_map.1 hx; exact ih e he
    rw [kerE, kerEs_map]
    split
    · split
      · exact .mk _ _ _ _ _ _ _ hk ha hb hc hd (fun e he => by cases he)
      · rename_i x l hx
        have h0 := hks x (by rw [hx]; simp)
        exact .mk _ _ _ _ _ _ _ (i 5 (by omega) (by omega)) z z z z (fun e he => by simp at he; rcases he with rfl | rfl; exact h0; exact .mk _ _ _ _ _ _ _ (i 7 (by omega) (by omega)) z z z z (fun e he => by simp at he; rw [he]; exact h0))
    split
    · split
      · exact .mk _ _ _ _ _ _ _ hk ha hb hc hd (fun e he => by cases he)
      · rename_i x l hx
        have h0 := hks x (by rw [hx]; simp)
        exact .mk _ _ _ _ _ _ _ (i 6 (by omega) (by omega)) z z z z (fun e he => by simp at he; rcases he with rfl | rfl; exact h0; exact .mk _ _ _ _ _ _ _ (i 1 (by omega) (by omega)) z z z z (fun e he => by cases he))
    split
    · exact .mk _ _ _ _ _ _ _ (i 11 (by omega) (by omega)) z z z z (fun e he => by simp at he; rw [he]; exact .mk _ _ _ _ _ _ _ (i 11 (by omega) (by omega)) z z z z hks)
    · exact .mk _ _ _ _ _ _ _ hk ha hb hc hd hks
theorem wf_kerG {g : List Rl} (h : ∀ r ∈ g, WfE r.2) : ∀ r ∈ kerG g, WfE r.2 := fun r hr => by
  obtain ⟨r0, h0, rfl⟩ := List.mem_map.1 hr
  exact wf_ker (h r0 h0)
end Go.Proofs.Ytefechceoeeonaa
