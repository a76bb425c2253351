/- With fewer kinds of expressions a grammar is as well as it was, has the same facts, and means the same: plain. Grammars made simpler, plain: what simp.Simp answers. What stands for an expression: as good, with the same facts, meaning the same, no larger; plain. -/
import Derived.Test.YtkmcnekjimobhaaJTopRoads17
import Derived.Test.YtkmcnekjimobhaaJTopRoads24
import Derived.Test.YtkmcnekjimobhaaJTopRoads9
import Derived.Test.YtkmcnekjimobhaaJTopRoads3
namespace Go.Proofs.Ytkmcnekjimobhaa
set_option maxRecDepth 100000
open Go.RowKit
theorem ker_fndFrom : ∀ (g : List Rl) (s : List UInt8) (i : Nat), fndFrom (kerG g) s i = fndFrom g s i
  | [], _, _ => rfl
  | r :: g, s, i => by
    show fndFrom ((r.1, kerE r.2) :: kerG g) s i = _
    rw [fndFrom, fndFrom, ker_fndFrom g s (i + 1)]
theorem ker_fnd (g : List Rl) (s : List UInt8) : fnd (kerG g) s = fnd g s := ker_fndFrom g s 0
theorem ker_at (g : List Rl) (i : Nat) : (kerG g)[i]? = (g[i]?).map fun r => (r.1, kerE r.2) := by unfold kerG; rw [List.getElem?_map]
theorem kerE_kind {k a b c d : Int} {t : ByteArray} {ks : List Ex} (h : fitB k a b c d t.data.toList ks.length = true) :
    (kerE (.mk k a b c d t ks) = .mk k a b c d t (ks.map kerE) /\ k ≠ 8 /\ k ≠ 9 /\ k ≠ 10) \/ (∃ x, ks = [x] /\ ((k = 8 /\ kerE (.mk k a b c d t ks) = ofN 5 [kerE x, ofN 7 [kerE x]]) \/ (k = 9 /\ kerE (.mk k a b c d t ks) = ofN 6 [kerE x, .mk 1 0 0 0 0 ⟨#[]⟩ []]) \/ (k = 10 /\ kerE (.mk k a b c d t ks) = ofN 11 [ofN 11 [kerE x]]))) := by
  by_cases h8 : k = 8 \/ k = 9 \/ k = 10
  · have h1 : ks.length = 1 := by rcases fit_cases h with x | x | x | x | x | x | x <;> omega
    obtain ⟨x, rfl⟩ := one_of h1
    refine .inr ⟨x, rfl, ?_⟩
    rcases h8 with rfl | rfl | rfl
    · exact .inl ⟨rfl, by rw [kerE, if_pos rfl, kerEs_map]; rfl⟩
    · exact .inr (.inl ⟨rfl, by rw [kerE, if_neg (by decide), if_pos rfl, kerEs_map]; rfl⟩)
    · exact .inr (.inr ⟨rfl, by rw [kerE, if_neg (by decide), if_neg (by decide), if_pos rfl, kerEs_map]; rfl⟩)
  · have a8 : k ≠ 8 := fun e => h8 (.inl e)
    have a9 : k ≠ 9 := fun e => h8 (.inr (.inl e))
    have a10 : k ≠ 10 := fun e => h8 (.inr (.inr e))
    exact .inl ⟨by rw [kerE, if_neg a8, if_neg a9, if_neg a10, kerEs_map], a8, a9, a10⟩
theorem ofEs_ker {g : List Rl} {kn : List Fa} : ∀ {ks : List Ex}, (∀ e ∈ ks, ofE (kerG g) kn (kerE e) = ofE g kn e) -> ofEs (kerG g) kn (ks.map kerE) = ofEs g kn ks
  | [], _ => by rw [List.map_nil, ofEs, ofEs]
  | e :: es, h => by rw [List.map_cons, ofEs, ofEs, h e (by simp), ofEs_ker fun e he => h e (by simp [he])]
theorem of_ker {g : List Rl} (kn : List Fa) {e : Ex} (h : Rt g e) : ofE (kerG g) kn (kerE e) = ofE g kn e := by
  induction h with
  | mk k a b c d t ks hf _ _ ih =>
    rcases kerE_kind hf with ⟨h1, h8, h9, h10⟩ | ⟨x, rfl, h1 | h1 | h1⟩
    · rw [h1, ofE, ofE, ofEs_ker ih, ker_fnd]
    · obtain ⟨rfl, h1⟩ := h1
      rw [h1]
      have hx := ih x (by simp)
      have h7 : ofE (kerG g) kn (ofN 7 [kerE x]) = starF (ofE g kn x) := by
        unfold ofN
        rw [ofE, if_neg (by decide), if_neg (by decide), if_neg (by decide), if_neg (by decide), if_neg (by decide), if_neg (by decide), if_pos rfl, ofEs, ofEs, kid0, hx]
      have h5 : ofE (kerG g) kn (ofN 5 [kerE x, ofN 7 [kerE x]]) = thenF (ofE g kn x) (starF (ofE g kn x)) := by
        unfold ofN at h7 ⊢
        rw [ofE, if_neg (by decide), if_neg (by decide), if_neg (by decide), if_neg (by decide), if_pos rfl, ofEs, ofEs, ofEs, seqF, h7, hx]
        rfl
      rw [h5, ofE, if_neg (by decide), if_neg (by decide), if_neg (by decide), if_neg (by decide), if_neg (by decide), if_neg (by decide), if_neg (by decide), if_pos rfl, ofEs, ofEs, kid0]
    · obtain ⟨rfl, h1⟩ := h1
      rw [h1]
      have hx := ih x (by simp)
      have h5 : ofE (kerG g) kn (ofN 6 [kerE x, .mk 1 0 0 0 0 ⟨#[]⟩ []]) = orF (ofE g kn x) ⟨true, false, false⟩ := by
        unfold ofN
        rw [ofE, if_neg (by decide), if_neg (by decide), if_neg (by decide), if_neg (by decide), if_neg (by decide), if_pos rfl, ofEs, ofEs, ofEs, altF, altF, of_zero, hx]
      rw [h5, ofE, if_neg (by decide), if_neg (by decide), if_neg (by decide), if_neg (by decide), if_neg (by decide), if_neg (by decide), if_neg (by decide), if_neg (by decide), if_pos rfl, ofEs, ofEs, kid0]
    · obtain ⟨rfl, h1⟩ := h1
      rw [h1]
      have hx := ih x (by simp)
      have h11 : ∀ y, ofE (kerG g) kn (ofN 11 [y]) = ⟨(ofE (kerG g) kn y).f, false, (ofE (kerG g) kn y).e || (ofE (kerG g) kn y).a⟩ := fun y => by
        unfold ofN
        rw [ofE, if_neg (by decide), if_neg (by decide), if_neg (by decide), if_neg (by decide), if_neg (by decide), if_neg (by decide), if_neg (by decide), if_neg (by decide), if_neg (by decide), if_neg (by decide), ofEs, ofEs, kid0]
      rw [h11, h11, hx, ofE, if_neg (by decide), if_neg (by decide), if_neg (by decide), if_neg (by decide), if_neg (by decide), if_neg (by decide), if_neg (by decide), if_neg (by decide), if_neg (by decide), if_pos rfl, ofEs, ofEs, kid0, Bool.or_false]
theorem nxF_ker {g : List Rl} (hR : ∀ r ∈ g, Rt g r.2) : nxF (kerG g) = nxF g := by
  funext kn i
  unfold nxF
  rw [ker_at]
  cases hr : g[i]? with
  | none => rfl
  | some r => exact of_ker kn (hR r (List.mem_of_getElem? hr))
theorem facts_ker {g : List Rl} (hR : ∀ r ∈ g, Rt g r.2) : factsG (kerG g) = factsG g := by
  unfold factsG
  rw [nxF_ker hR, kerG_len]
theorem loopsEs_ker {g : List Rl} {fs : List Fa} : ∀ {ks : List Ex}, (∀ e ∈ ks, loopsE (kerG g) fs (kerE e) = loopsE g fs e) -> loopsEs (kerG g) fs (ks.map kerE) = loopsEs g fs ks
  | [], _ => by rw [List.map_nil, loopsEs, loopsEs]
  | e :: es, h => by rw [List.map_cons, loopsEs, loopsEs, h e (by simp), loopsEs_ker fun e he => h e (by simp [he])]
theorem loops_ker {g : List Rl} (fs : List Fa) {e : Ex} (h : Rt g e) : loopsE (kerG g) fs (kerE e) = loopsE g fs e := by
  induction h with
  | mk k a b c d t ks hf _ hk ih =>
    have hof : ∀ e ∈ ks, ofE (kerG g) fs (kerE e) = ofE g fs e := fun e he => of_ker fs (hk e he)
    rcases kerE_kind hf with ⟨h1, h8, h9, h10⟩ | ⟨x, rfl, h1 | h1 | h1⟩
    · rw [h1, loopsE, loopsE, ofEs_ker hof, loopsEs_ker ih]
    · obtain ⟨rfl, h1⟩ := h1
      rw [h1]
      have hx := ih x (by simp)
      have ho := hof x (by simp)
      unfold ofN
      simp only [loopsE, loopsEs, ofEs, kid0, hx, ho]
      cases (ofE g fs x).e <;> cases loopsE g fs x <;> rfl
    · obtain ⟨rfl, h1⟩ := h1
      rw [h1]
      have hx := ih x (by simp)
      unfold ofN
      simp only [loopsE, loopsEs, hx]
      cases loopsE g fs x <;> rfl
    · obtain ⟨rfl, h1⟩ := h1
      rw [h1]
      have hx := ih x (by simp)
      unfold ofN
      simp only [loopsE, loopsEs, hx]
      cases loopsE g fs x <;> rfl
theorem badLoop_ker {g : List Rl} (fs : List Fa) : ∀ (l : List Rl) (i : Nat), (∀ r ∈ l, Rt g r.2) -> badLoop (kerG g) fs (kerG l) i = badLoop g fs l i
  | [], _, _ => rfl
  | r :: l, i, h => by
    show badLoop (kerG g) fs ((r.1, kerE r.2) :: kerG l) i = _
    rw [badLoop, badLoop, loops_ker fs (h r (by simp)), badLoop_ker fs l (i + 1) fun r hr => h r (by simp [hr])]
theorem soundS_ker {g : List Rl} {fs : List Fa} {kn : List Bool} : ∀ {ks : List Ex}, (∀ e ∈ ks, soundE (kerG g) fs kn (kerE e) = soundE g fs kn e) -> (∀ e ∈ ks, ofE (kerG g) fs (kerE e) = ofE g fs e) -> soundS (kerG g) fs kn (ks.map kerE) = soundS g fs kn ks
  | [], _, _ => by rw [List.map_nil, soundS, soundS]
  | e :: es, h, h' => by rw [List.map_cons, soundS, soundS, h e (by simp), h' e (by simp), soundS_ker (fun e he => h e (by simp [he])) fun e he => h' e (by simp [he])]
theorem soundA_ker {g : List Rl} {fs : List Fa} {kn : List Bool} : ∀ {ks : List Ex}, (∀ e ∈ ks, soundE (kerG g) fs kn (kerE e) = soundE g fs kn e) -> soundA (kerG g) fs kn (ks.map kerE) = soundA g fs kn ks
  | [], _ => by rw [List.map_nil, soundA, soundA]
  | e :: es, h => by rw [List.map_cons, soundA, soundA, h e (by simp), soundA_ker fun e he => h e (by simp [he])]
theorem sound_1 {g : List Rl} {fs : List Fa} {kn : List Bool} {k a b c d : Int} {t : ByteArray} {x : Ex} (h4 : k ≠ 4) (h5 : k ≠ 5) : soundE g fs kn (.mk k a b c d t [x]) = soundE g fs kn x := by
  rw [soundE, if_neg h4, if_neg h5, soundA, soundA]
  cases soundE g fs kn x <;> simp
theorem sound_ker {g : List Rl} (fs : List Fa) (kn : List Bool) {e : Ex} (h : Rt g e) : soundE (kerG g) fs kn (kerE e) = soundE g fs kn e := by
  induction h with
  | mk k a b c d t ks hf _ hk ih =>
    have hof : ∀ e ∈ ks, ofE (kerG g) fs (kerE e) = ofE g fs e := fun e he => of_ker fs (hk e he)
    rcases kerE_kind hf with ⟨h1, h8, h9, h10⟩ | ⟨x, rfl, h1 | h1 | h1⟩
    · rw [h1, soundE, soundE, ker_fnd, soundS_ker ih hof, soundA_ker ih]
    · obtain ⟨rfl, h1⟩ := h1
      rw [h1]
      have hx := ih x (by simp)
      have h7 : soundE (kerG g) fs kn (ofN 7 [kerE x]) = soundE g fs kn x := (sound_1 (by decide) (by decide)).trans hx
      have h5 : soundE (kerG g) fs kn (ofN 5 [kerE x, ofN 7 [kerE x]]) = soundE g fs kn x := by
        unfold ofN at h7 ⊢
        rw [soundE, if_neg (by decide), if_pos rfl, soundS, soundS, soundS, h7, hx]
        cases soundE g fs kn x <;> simp
      rw [h5, sound_1 (by decide) (by decide)]
    · obtain ⟨rfl, h1⟩ := h1
      rw [h1]
      have hx := ih x (by simp)
      have h0 : soundE (kerG g) fs kn (.mk 1 0 0 0 0 ⟨#[]⟩ []) = true := by rw [soundE, if_neg (by decide), if_neg (by decide), soundA]
      unfold ofN
      rw [sound_1 (k := 9) (by decide) (by decide), soundE, if_neg (by decide), if_neg (by decide), soundA, soundA, soundA, hx, h0]
      cases soundE g fs kn x <;> simp
    · obtain ⟨rfl, h1⟩ := h1
      rw [h1]
      have hx := ih x (by simp)
      unfold ofN
      rw [sound_1 (by decide) (by decide), sound_1 (by decide) (by decide), sound_1 (by decide) (by decide), hx]
theorem nxB_ker {g : List Rl} (hR : ∀ r ∈ g, Rt g r.2) (fs : List Fa) : nxB (kerG g) fs = nxB g fs := by
  funext kn i
  unfold nxB
  rw [ker_at]
  cases hr : g[i]? with
  | none => rfl
  | some r => exact sound_ker fs kn (hR r (List.mem_of_getElem? hr))
theorem well_ker {g : List Rl} (h0 : checkG g = 0) (h1 : checkG (kerG g) = 0) : wellG (kerG g) = wellG g := by
  have R := right_of h0
  unfold wellG
  rw [h0, h1, facts_ker R.rt, badLoop_ker _ g 0 R.rt]
  unfold knownG
  rw [nxB_ker R.rt, kerG_len]
theorem ev_ker {g : List Rl} (hR : ∀ r ∈ g, Rt g r.2) (s : List UInt8) : ∀ n,
    (∀ e p o, Rt g e -> ev g s n e p = some o -> Sem (kerG g) s (kerE e) p o) /\
    (∀ es p o, (∀ e ∈ es, Rt g e) -> evS g s n es p = some o -> ∃ m, evS (kerG g) s m (es.map kerE) p = some o) /\
    (∀ es p o, (∀ e ∈ es, Rt g e) -> evA g s n es p = some o -> ∃ m, evA (kerG g) s m (es.map kerE) p = some o) /\
    (∀ e p o, Rt g e -> evR g s n e p = some o -> ∃ m, evR (kerG g) s m (kerE e) p = some o) := by
  intro n
  induction n using Nat.strongRecOn with
  | _ n ih =>
  cases n with
  | zero => exact ⟨fun e p o _ h => (by cases h), fun es p o _ h => (by cases h), fun es p o _ h => (by cases h), fun e p o _ h => (by cases h)⟩
  | succ n =>
    obtain ⟨i1, i2, i3, i4⟩ := ih n (by omega)
    refine ⟨?_, ?_, ?_, ?_⟩
    · intro e p o hr h
      cases hr with
      | mk k a b c d t ks hf hn hk =>
      rcases kerE_kind hf with ⟨h1, h8, h9, h10⟩ | ⟨x, rfl, h1⟩
      · rw [h1]
        rw [ev_s] at h
        rcases fit_cases hf with ⟨rfl, hl⟩ | ⟨rfl, hl⟩ | ⟨rfl, hl, _⟩ | ⟨rfl, hl, _⟩ | ⟨rfl, _⟩ | ⟨rfl, _⟩ | ⟨h7, h11, hl⟩
        · exact ⟨1, by rw [ev_s, if_pos rfl]; exact h⟩
        · exact ⟨1, by rw [ev_s, if_neg (by decide), if_pos rfl]; exact h⟩
        · exact ⟨1, by rw [ev_s, if_neg (by decide), if_neg (by decide), if_pos rfl]; exact h⟩
        · rw [if_neg (by decide), if_neg (by decide), if_neg (by decide), if_pos rfl] at h
          cases hg : g[(fnd g t.data.toList).toNat]? with
          | none =>
            rw [hg] at h
            exact ⟨1, by rw [ev_s, if_neg (by decide), if_neg (by decide), if_neg (by decide), if_pos rfl, ker_fnd, ker_at, hg]; exact h⟩
          | some r =>
            rw [hg] at h
            obtain ⟨m, hm⟩ := i1 _ _ _ (hR r (List.mem_of_getElem? hg)) h
            exact ⟨m + 1, by rw [ev_s, if_neg (by decide), if_neg (by decide), if_neg (by decide), if_pos rfl, ker_fnd, ker_at, hg]; exact hm⟩
        · rw [if_neg (by decide), if_neg (by decide), if_neg (by decide), if_neg (by decide), if_pos rfl] at h
          exact sem_of_S (i2 _ _ _ hk h)
        · rw [if_neg (by decide), if_neg (by decide), if_neg (by decide), if_neg (by decide), if_neg (by decide), if_pos rfl] at h
          exact sem_of_A (i3 _ _ _ hk h)
        · rw [if_neg (by omega), if_neg (by omega), if_neg (by omega), if_neg (by omega), if_neg (by omega), if_neg (by omega)] at h
          obtain ⟨x, rfl⟩ := one_of hl
          have hx := hk x (by simp)
          have h' : evK g s n k x p = some o := h
          cases n with
          | zero => cases h'
          | succ n =>
            obtain ⟨j1, j2, j3, j4⟩ := ih n (by omega)
            rw [evK_s] at h'
            have h711 : k = 7 \/ k = 11 := by omega
            rcases h711 with rfl | rfl
            · rw [if_pos rfl] at h'
              exact sem_of_K (by decide) (semK_star (j4 _ _ _ hx h'))
            · rw [if_neg (by decide)] at h'
              cases he : ev g s n x p with
              | none => rw [he] at h'; cases h'
              | some u =>
                have hs := j1 _ _ _ hx he
                rw [he] at h'
                have := semK_not hs
                cases u with
                | none => simp at h'; subst h'; exact sem_of_K (by decide) this
                | some q1 => simp at h'; subst h'; exact sem_of_K (by decide) this
      · have hx := hk x (by simp)
        have h' : evK g s n k x p = some o := by
          rw [ev_s] at h
          rw [if_neg (by omega), if_neg (by omega), if_neg (by omega), if_neg (by omega), if_neg (by omega), if_neg (by omega)] at h
          exact h
        cases n with
        | zero => cases h'
        | succ n =>
          obtain ⟨j1, j2, j3, j4⟩ := ih n (by omega)
          rw [evK_s] at h'
          have hne7 : k ≠ 7 := by omega
          rw [if_neg hne7] at h'
          cases he : ev g s n x p with
          | none => rw [he] at h'; cases h'
          | some u =>
            have hs := j1 _ _ _ hx he
            rw [he] at h'
            rcases h1 with ⟨rfl, h1⟩ | ⟨rfl, h1⟩ | ⟨rfl, h1⟩
            · rw [h1]
              refine sem_of_S ?_
              cases u with
              | none => simp at h'; subst h'; exact semS_stop hs
              | some q1 =>
                simp only [if_pos] at h'
                have hr := sem_of_K (g := kerG g) (s := s) (a := 0) (b := 0) (c := 0) (d := 0) (t := ⟨#[]⟩) (ks := []) (by decide) (semK_star (j4 _ _ _ hx h'))
                cases o with
                | none => exact semS_next hs (semS_stop hr)
                | some q => exact semS_next hs (semS_next hr ⟨1, evS_nil _ _ _ _⟩)
            · rw [h1]
              refine sem_of_A ?_
              cases u with
              | none =>
                simp at h'
                subst h'
                exact semA_next hs (semA_stop ⟨1, by rw [ev_s, if_pos rfl]⟩)
              | some q1 =>
                simp at h'
                subst h'
                exact semA_stop hs
            · rw [h1]
              have hs1 : Sem (kerG g) s (ofN 11 [kerE x]) p (if u = none then some p else none) := sem_of_K (by decide) (semK_not hs)
              have hs2 : Sem (kerG g) s (ofN 11 [ofN 11 [kerE x]]) p (if (if u = none then some p else none) = none then some p else none) := sem_of_K (by decide) (semK_not hs1)
              cases u with
              | none => simp at h' hs2; subst h'; exact hs2
              | some q1 => simp at h' hs2; subst h'; exact hs2
    · intro es p o hr h
      cases es with
      | nil => rw [evS_nil] at h; exact ⟨1, by rw [List.map_nil, evS_nil]; exact h⟩
      | cons e es =>
        rw [evS_cons] at h
        cases he : ev g s n e p with
        | none => rw [he] at h; cases h
        | some u =>
          have hs := i1 _ _ _ (hr e (by simp)) he
          rw [he] at h
          cases u with
          | none => simp at h; subst h; exact semS_stop hs
          | some q1 => exact semS_next hs (i2 _ _ _ (fun e he => hr e (by simp [he])) h)
    · intro es p o hr h
      cases es with
      | nil => rw [evA_nil] at h; exact ⟨1, by rw [List.map_nil, evA_nil]; exact h⟩
      | cons e es =>
        rw [evA_cons] at h
        cases he : ev g s n e p with
        | none => rw [he] at h; cases h
        | some u =>
          have hs := i1 _ _ _ (hr e (by simp)) he
          rw [he] at h
          cases u with
          | none => exact semA_next hs (i3 _ _ _ (fun e he => hr e (by simp [he])) h)
          | some q1 => simp at h; subst h; exact semA_stop hs
    · intro e p o hr h
      rw [evR_s] at h
      cases he : ev g s n e p with
      | none => rw [he] at h; cases h
      | some u =>
        have hs := i1 _ _ _ hr he
        rw [he] at h
        cases u with
        | none => simp at h; subst h; exact semR_stop hs
        | some q1 => exact semR_next hs (i4 _ _ _ hr h)
theorem sem_ker {g : List Rl} (hR : ∀ r ∈ g, Rt g r.2) {s : List UInt8} {e : Ex} {p : Nat} {o : Option Nat} (hr : Rt g e) (h : Sem g s e p o) : Sem (kerG g) s (kerE e) p o := by
  obtain ⟨n, h⟩ := h
  exact (ev_ker hR s n).1 e p o hr h
theorem look_ker {g : List Rl} (h0 : checkG g = 0) (h1 : checkG (kerG g) = 0) (s : ByteArray) : lookG (kerG g) s = lookG g s := by
  unfold lookG
  rw [well_ker h0 h1]
theorem wf_ker {e : Ex} (h : WfE e) : WfE (kerE e) := by
  induction h with
  | mk k a b c d t ks hk ha hb hc hd _ ih =>
    have z : U64 0 := by unfold U64; omega
    have i (n : Int) (h1 : 0 <= n) (h2 : n <= 100) : I64 n := by unfold I64; omega
    have hks : ∀ x ∈ ks.map kerE, WfE x := fun x hx => by obtain ⟨e, he, rfl⟩ := List.mem_map.1 hx; exact ih e he
    rw [kerE, kerEs_map]
    split
    · split
      · exact .mk _ _ _ _ _ _ _ hk ha hb hc hd (fun e he => by cases he)
      · rename_i x l hx
        have h0 := hks x (by rw [hx]; simp)
        exact .mk _ _ _ _ _ _ _ (i 5 (by omega) (by omega)) z z z z (fun e he => by simp at he; rcases he with rfl | rfl; exact h0; exact .mk _ _ _ _ _ _ _ (i 7 (by omega) (by omega)) z z z z (fun e he => by simp at he; rw [he]; exact h0))
    split
    · split
      · exact .mk _ _ _ _ _ _ _ hk ha hb hc hd (fun e he => by cases he)
      · rename_i x l hx
        have h0 := hks x (by rw [hx]; simp)
        exact .mk _ _ _ _ _ _ _ (i 6 (by omega) (by omega)) z z z z (fun e he => by simp at he; rcases he with rfl | rfl; exact h0; exact .mk _ _ _ _ _ _ _ (i 1 (by omega) (by omega)) z z z z (fun e he => by cases he))
    split
    · exact .mk _ _ _ _ _ _ _ (i 11 (by omega) (by omega)) z z z z (fun e he => by simp at he; rw [he]; exact .mk _ _ _ _ _ _ _ (i 11 (by omega) (by omega)) z z z z hks)
    · exact .mk _ _ _ _ _ _ _ hk ha hb hc hd hks
theorem wf_kerG {g : List Rl} (h : ∀ r ∈ g, WfE r.2) : ∀ r ∈ kerG g, WfE r.2 := fun r hr => by
  obtain ⟨r0, h0, rfl⟩ := List.mem_map.1 hr
  exact wf_ker (h r0 h0)
def Ex.kd : Ex -> Int
  | .mk k _ _ _ _ _ _ => k
def Ex.ks : Ex -> List Ex
  | .mk _ _ _ _ _ _ ks => ks
def singleS : Ex -> Ex × Bool
  | .mk k a b c d t [] => (.mk k a b c d t [], false)
  | .mk k a b c d t (x :: xs) =>
    if k = 11 /\ x.kd = 11 then (ofN 10 x.ks, true)
    else if k = 11 /\ x.kd = 10 then (ofN 11 x.ks, true)
    else if (k = 10 /\ (x.kd = 10 \/ x.kd = 11)) \/ (k = 9 /\ (x.kd = 9 \/ x.kd = 7)) then (x, true)
    else if k = 9 /\ x.kd = 8 then (ofN 7 x.ks, true)
    else (.mk k a b c d t (x :: xs), false)
theorem single_cons (k a b c d : Int) (t : ByteArray) (x : Ex) (xs : List Ex) : singleS (.mk k a b c d t (x :: xs)) = if k = 11 /\ x.kd = 11 then (ofN 10 x.ks, true)
    else if k = 11 /\ x.kd = 10 then (ofN 11 x.ks, true)
    else if (k = 10 /\ (x.kd = 10 \/ x.kd = 11)) \/ (k = 9 /\ (x.kd = 9 \/ x.kd = 7)) then (x, true)
    else if k = 9 /\ x.kd = 8 then (ofN 7 x.ks, true)
    else (.mk k a b c d t (x :: xs), false) := rfl
theorem single_two (k a b c d : Int) (t : ByteArray) (k2 a2 b2 c2 d2 : Int) (t2 : ByteArray) (ks xs : List Ex) : singleS (.mk k a b c d t (.mk k2 a2 b2 c2 d2 t2 ks :: xs)) = if k = 11 /\ k2 = 11 then (ofN 10 ks, true)
    else if k = 11 /\ k2 = 10 then (ofN 11 ks, true)
    else if (k = 10 /\ (k2 = 10 \/ k2 = 11)) \/ (k = 9 /\ (k2 = 9 \/ k2 = 7)) then (.mk k2 a2 b2 c2 d2 t2 ks, true)
    else if k = 9 /\ k2 = 8 then (ofN 7 ks, true)
    else (.mk k a b c d t (.mk k2 a2 b2 c2 d2 t2 ks :: xs), false) := rfl
def flatB (k : Int) (x : Ex) (l xs : List Ex) : Bool := decide (x.kd = k) && decide (l.length + x.ks.length + xs.length <= 8)
def lastB (g : List Rl) (fs : List Fa) (k : Int) (x : Ex) (xs : List Ex) : Bool := decide (k = 6) && decide (0 < xs.length) && !(ofE g fs x).f
def listS (g : List Rl) (fs : List Fa) (k : Int) : List Ex -> List Ex -> List Ex × Bool
  | [], l => (l, false)
  | x :: xs, l =>
    if x.kd = 1 /\ k = 5 then ((listS g fs k xs l).1, true)
    else if lastB g fs k x xs = true then (l ++ (if flatB k x l xs = true then x.ks else [x]), true)
    else ((listS g fs k xs (l ++ (if flatB k x l xs = true then x.ks else [x]))).1, flatB k x l xs || (listS g fs k xs (l ++ (if flatB k x l xs = true then x.ks else [x]))).2)
def topS (k a b c d : Int) (t : ByteArray) : List Ex × Bool -> Ex × Bool
  | ([], m) => (ofN 1 [], m)
  | ([y], _) => (y, true)
  | (y :: z :: l, m) => (.mk k a b c d t (y :: z :: l), m)
mutual
def simE (g : List Rl) (fs : List Fa) : Ex -> Ex × Bool
  | .mk k a b c d t ks =>
    if k = 5 \/ k = 6 then ((topS k a b c d t (listS g fs k (simEs g fs ks).1 [])).1, (simEs g fs ks).2 || (topS k a b c d t (listS g fs k (simEs g fs ks).1 [])).2)
    else if 9 <= k /\ k <= 11 then ((singleS (.mk k a b c d t (simEs g fs ks).1)).1, (simEs g fs ks).2 || (singleS (.mk k a b c d t (simEs g fs ks).1)).2)
    else (.mk k a b c d t (simEs g fs ks).1, (simEs g fs ks).2)
def simEs (g : List Rl) (fs : List Fa) : List Ex -> List Ex × Bool
  | [] => ([], false)
  | e :: es => ((simE g fs e).1 :: (simEs g fs es).1, (simE g fs e).2 || (simEs g fs es).2)
end
theorem simEs_map (g : List Rl) (fs : List Fa) : ∀ ks : List Ex, (simEs g fs ks).1 = ks.map fun e => (simE g fs e).1
  | [] => rfl
  | e :: es => by rw [simEs, simEs_map g fs es]; rfl
theorem simEs_any (g : List Rl) (fs : List Fa) : ∀ ks : List Ex, (simEs g fs ks).2 = ks.any fun e => (simE g fs e).2
  | [] => rfl
  | e :: es => by rw [simEs, simEs_any g fs es]; rfl
def simG (g : List Rl) : List Rl × Bool := (g.map fun r => (r.1, (simE g (factsG g) r.2).1), g.any fun r => (simE g (factsG g) r.2).2)
def simN : Nat -> List Rl -> List Rl
  | 0, g => g
  | n + 1, g => if (simG g).2 = true then simN n (simG g).1 else (simG g).1
def nodesG (g : List Rl) : Nat := (g.map fun r => nodes r.2).sum
def simpG (g : List Rl) : List Rl := simN (nodesG g + 1) g
theorem single_same : ∀ {e : Ex}, (singleS e).2 = false -> (singleS e).1 = e
  | .mk k a b c d t [], _ => rfl
  | .mk k a b c d t (x :: xs), h => by
    rw [single_cons] at h ⊢
    split at h
    · cases h
    split at h
    · cases h
    split at h
    · cases h
    split at h
    · cases h
    rename_i h1 h2 h3 h4
    rw [if_neg h1, if_neg h2, if_neg h3, if_neg h4]
theorem list_same {g : List Rl} {fs : List Fa} {k : Int} : ∀ {xs l : List Ex}, (listS g fs k xs l).2 = false -> (listS g fs k xs l).1 = l ++ xs
  | [], l, _ => by simp [listS]
  | x :: xs, l, h => by
    unfold listS at h ⊢
    split at h
    · cases h
    rename_i h1
    rw [if_neg h1]
    split at h
    · cases h
    rename_i h2
    rw [if_neg h2]
    rw [Bool.or_eq_false_iff] at h
    obtain ⟨h3, h4⟩ := h
    rw [h3, if_neg (by decide)] at h4
    rw [h3, if_neg (by decide)]
    simp only
    rw [list_same h4, List.append_assoc]
    rfl
theorem top_same {k a b c d : Int} {t : ByteArray} : ∀ {r : List Ex × Bool}, (topS k a b c d t r).2 = false -> r.1 ≠ [] -> (topS k a b c d t r).1 = .mk k a b c d t r.1 /\ r.2 = false
  | ([], m), _, h => absurd rfl h
  | ([y], m), h, _ => by cases h
  | (y :: z :: l, m), h, _ => ⟨rfl, h⟩
theorem sim_same {g g' : List Rl} {fs : List Fa} (e : Ex) : Rt g' e -> (simE g fs e).2 = false -> (simE g fs e).1 = e := by
  refine Ex.ind (P := fun e => Rt g' e -> (simE g fs e).2 = false -> (simE g fs e).1 = e) ?_ e
  intro k a b c d t ks ih hR h
  cases hR with
  | mk _ _ _ _ _ _ _ hfit _ hkids =>
  have hk : ∀ l : List Ex, (∀ x ∈ l, x ∈ ks) -> (simEs g fs l).2 = false -> (simEs g fs l).1 = l := by
    intro l
    induction l with
    | nil => intro _ _; rfl
    | cons x xs ihl =>
      intro hm hs
      rw [simEs] at hs ⊢
      simp only [Bool.or_eq_false_iff] at hs ⊢
      rw [ih x (hm x (by simp)) (hkids x (hm x (by simp))) hs.1, ihl (fun y hy => hm y (by simp [hy])) hs.2]
  unfold simE at h ⊢
  by_cases h56 : k = 5 \/ k = 6
  · rw [if_pos h56] at h ⊢
    simp only [Bool.or_eq_false_iff] at h ⊢
    rw [hk ks (fun x hx => hx) h.1] at h ⊢
    have hne : (listS g fs k ks []).1 ≠ [] -> (topS k a b c d t (listS g fs k ks [])).1 = .mk k a b c d t ks := fun hne => by
      obtain ⟨h1, h2⟩ := top_same h.2 hne
      rw [h1, list_same h2, List.nil_append]
    refine hne fun he => ?_
    have h2 : (listS g fs k ks []).2 = false := by
      have := h.2
      generalize listS g fs k ks [] = r at this he
      obtain ⟨l, m⟩ := r
      simp only at he
      subst he
      exact this
    have := list_same h2
    rw [he, List.nil_append] at this
    have hfc := fit_cases hfit
    rw [<- this] at hfc
    simp at hfc
    omega
  rw [if_neg h56] at h ⊢
  by_cases h9 : 9 <= k /\ k <= 11
  · rw [if_pos h9] at h ⊢
    simp only [Bool.or_eq_false_iff] at h ⊢
    rw [hk ks (fun x hx => hx) h.1] at h ⊢
    exact single_same h.2
  · rw [if_neg h9] at h ⊢
    simp only at h ⊢
    rw [hk ks (fun x hx => hx) h]
theorem simG_same {g : List Rl} (hR : ∀ r ∈ g, Rt g r.2) (h : (simG g).2 = false) : (simG g).1 = g := by
  unfold simG at h ⊢
  simp only at h ⊢
  rw [List.any_eq_false] at h
  have : ∀ r ∈ g, (r.1, (simE g (factsG g) r.2).1) = r := fun r hr => by
    rw [sim_same r.2 (hR r hr) (by simpa using h r hr)]
  conv => rhs; rw [<- List.map_id g]
  exact List.map_congr_left this
theorem ofEs_map (g : List Rl) (kn : List Fa) : ∀ ks : List Ex, ofEs g kn ks = ks.map (ofE g kn)
  | [] => by rw [ofEs]; rfl
  | e :: es => by rw [ofEs, ofEs_map g kn es]; rfl
def faE : Fa := ⟨true, false, false⟩
def faN : Fa := ⟨false, false, true⟩
theorem then_nil (x : Fa) : thenF faE x = x := by obtain ⟨a, b, c⟩ := x; simp [thenF, faE]
theorem then_unit (x : Fa) : thenF x faE = x := by obtain ⟨a, b, c⟩ := x; simp [thenF, faE]
theorem then_assoc (x y z : Fa) : thenF (thenF x y) z = thenF x (thenF y z) := by
  obtain ⟨a, b, c⟩ := x; obtain ⟨d, e, f⟩ := y; obtain ⟨p, q, r⟩ := z
  simp only [thenF, Fa.mk.injEq]
  revert a b c d e f p q r
  decide
theorem or_unit (x : Fa) : orF x faN = x := by obtain ⟨a, b, c⟩ := x; simp [orF, faN]
theorem or_assoc (x y z : Fa) : orF (orF x y) z = orF x (orF y z) := by
  obtain ⟨a, b, c⟩ := x; obtain ⟨d, e, f⟩ := y; obtain ⟨p, q, r⟩ := z
  simp only [orF, Fa.mk.injEq]
  revert a b c d e f p q r
  decide
theorem or_cut {x : Fa} (y : Fa) (h : x.f = false) : orF x y = x := by obtain ⟨a, b, c⟩ := x; simp only at h; subst h; simp [orF]
theorem fold_then : ∀ (l : List Fa) (x : Fa), l.foldl thenF x = thenF x (l.foldl thenF faE)
  | [], x => (then_unit x).symm
  | y :: l, x => by rw [List.foldl_cons, fold_then l, List.foldl_cons, then_nil, fold_then l y, then_assoc]
theorem seqF_fold : ∀ {l : List Fa}, l ≠ [] -> seqF l = l.foldl thenF faE
  | [], h => absurd rfl h
  | x :: l, _ => by rw [seqF, List.foldl_cons, then_nil]
theorem fold_or : ∀ (l : List Fa) (y : Fa), l.foldr orF y = orF (l.foldr orF faN) y
  | [], y => by simp [orF, faN]
  | x :: l, y => by rw [List.foldr_cons, List.foldr_cons, fold_or l y, or_assoc]
theorem altF_fold : ∀ {l : List Fa}, l ≠ [] -> altF l = l.foldr orF faN
  | [], h => absurd rfl h
  | [x], _ => by rw [altF]; exact (or_unit x).symm
  | x :: y :: l, _ => by rw [altF, altF_fold (by simp)]; rfl
mutual
def depX : Ex -> Nat
  | .mk _ _ _ _ _ _ ks => 1 + depAll ks
def depAll : List Ex -> Nat
  | [] => 0
  | e :: es => max (depX e) (depAll es)
end
theorem depAll_app : ∀ l m : List Ex, depAll (l ++ m) = max (depAll l) (depAll m)
  | [], m => by simp [depAll]
  | e :: l, m => by rw [List.cons_append, depAll, depAll, depAll_app l m, Nat.max_assoc]
theorem nodesAll_app : ∀ l m : List Ex, nodesAll (l ++ m) = nodesAll l + nodesAll m
  | [], m => by simp [nodesAll]
  | e :: l, m => by rw [List.cons_append, nodesAll, nodesAll, nodesAll_app l m, Nat.add_assoc]
section
variable {g : List Rl} {s : List UInt8}
def SemS (g : List Rl) (s : List UInt8) (es : List Ex) (p : Nat) (o : Option Nat) : Prop := ∃ n, evS g s n es p = some o
def SemA (g : List Rl) (s : List UInt8) (es : List Ex) (p : Nat) (o : Option Nat) : Prop := ∃ n, evA g s n es p = some o
def SemR (g : List Rl) (s : List UInt8) (e : Ex) (p : Nat) (o : Option Nat) : Prop := ∃ n, evR g s n e p = some o
theorem semS_nil {p : Nat} {o : Option Nat} : SemS g s [] p o ↔ o = some p :=
  ⟨fun ⟨n, h⟩ => by cases n with
    | zero => cases h
    | succ n => rw [evS_nil] at h; injection h with h; exact h.symm, fun h => ⟨1, by rw [h, evS_nil]⟩⟩
theorem semA_nil {p : Nat} {o : Option Nat} : SemA g s [] p o ↔ o = none :=
  ⟨fun ⟨n, h⟩ => by cases n with
    | zero => cases h
    | succ n => rw [evA_nil] at h; injection h with h; exact h.symm, fun h => ⟨1, by rw [h, evA_nil]⟩⟩
theorem semS_cons {e : Ex} {es : List Ex} {p : Nat} {o : Option Nat} : SemS g s (e :: es) p o ↔ (∃ q, Sem g s e p (some q) /\ SemS g s es q o) \/ (Sem g s e p none /\ o = none) := by
  constructor
  · rintro ⟨n, h⟩
    cases n with
    | zero => cases h
    | succ n =>
      rw [evS_cons] at h
      cases he : ev g s n e p with
      | none => rw [he] at h; cases h
      | some u =>
        rw [he] at h
        cases u with
        | none => injection h with h; exact .inr ⟨⟨n, he⟩, h.symm⟩
        | some q => exact .inl ⟨q, ⟨n, he⟩, ⟨n, h⟩⟩
  · rintro (⟨q, h1, h2⟩ | ⟨h1, rfl⟩)
    · exact semS_next h1 h2
    · exact semS_stop h1
theorem semA_cons {e : Ex} {es : List Ex} {p : Nat} {o : Option Nat} : SemA g s (e :: es) p o ↔ (Sem g s e p none /\ SemA g s es p o) \/ (∃ q, Sem g s e p (some q) /\ o = some q) := by
  constructor
  · rintro ⟨n, h⟩
    cases n with
    | zero => cases h
    | succ n =>
      rw [evA_cons] at h
      cases he : ev g s n e p with
      | none => rw [he] at h; cases h
      | some u =>
        rw [he] at h
        cases u with
        | none => exact .inl ⟨⟨n, he⟩, ⟨n, h⟩⟩
        | some q => injection h with h; exact .inr ⟨q, ⟨n, he⟩, h.symm⟩
  · rintro (⟨h1, h2⟩ | ⟨q, h1, rfl⟩)
    · exact semA_next h1 h2
    · exact semA_stop h1
theorem semR_iff {e : Ex} {p : Nat} {o : Option Nat} : SemR g s e p o ↔ (Sem g s e p none /\ o = some p) \/ ∃ q, Sem g s e p (some q) /\ SemR g s e q o := by
  constructor
  · rintro ⟨n, h⟩
    cases n with
    | zero => cases h
    | succ n =>
      rw [evR_s] at h
      cases he : ev g s n e p with
      | none => rw [he] at h; cases h
      | some u =>
        rw [he] at h
        cases u with
        | none => injection h with h; exact .inl ⟨⟨n, he⟩, h.symm⟩
        | some q => exact .inr ⟨q, ⟨n, he⟩, ⟨n, h⟩⟩
  · rintro (⟨h1, rfl⟩ | ⟨q, h1, h2⟩)
    · exact semR_stop h1
    · exact semR_next h1 h2
theorem sem5 {a b c d : Int} {t : ByteArray} {ks : List Ex} {p : Nat} {o : Option Nat} : Sem g s (.mk 5 a b c d t ks) p o ↔ SemS g s ks p o :=
  ⟨fun ⟨n, h⟩ => by
    cases n with
    | zero => cases h
    | succ n => rw [ev_s, if_neg (by decide), if_neg (by decide), if_neg (by decide), if_neg (by decide), if_pos rfl] at h; exact ⟨n, h⟩, sem_of_S⟩
theorem sem6 {a b c d : Int} {t : ByteArray} {ks : List Ex} {p : Nat} {o : Option Nat} : Sem g s (.mk 6 a b c d t ks) p o ↔ SemA g s ks p o :=
  ⟨fun ⟨n, h⟩ => by
    cases n with
    | zero => cases h
    | succ n => rw [ev_s, if_neg (by decide), if_neg (by decide), if_neg (by decide), if_neg (by decide), if_neg (by decide), if_pos rfl] at h; exact ⟨n, h⟩, sem_of_A⟩
theorem semK_iff {k a b c d : Int} {t : ByteArray} {x : Ex} {ks : List Ex} {p : Nat} {o : Option Nat} (h7 : 7 <= k) : Sem g s (.mk k a b c d t (x :: ks)) p o ↔ ∃ n, evK g s n k x p = some o :=
  ⟨fun ⟨n, h⟩ => by
    cases n with
    | zero => cases h
    | succ n => rw [ev_s, if_neg (by omega), if_neg (by omega), if_neg (by omega), if_neg (by omega), if_neg (by omega), if_neg (by omega)] at h; exact ⟨n, h⟩, sem_of_K h7⟩
theorem sem7 {a b c d : Int} {t : ByteArray} {x : Ex} {p : Nat} {o : Option Nat} : Sem g s (.mk 7 a b c d t [x]) p o ↔ SemR g s x p o := by
  rw [semK_iff (by decide)]
  exact ⟨fun ⟨n, h⟩ => by
    cases n with
    | zero => cases h
    | succ n => rw [evK_s, if_pos rfl] at h; exact ⟨n, h⟩, semK_star⟩
theorem sem8 {a b c d : Int} {t : ByteArray} {x : Ex} {p : Nat} {o : Option Nat} : Sem g s (.mk 8 a b c d t [x]) p o ↔ (Sem g s x p none /\ o = none) \/ ∃ q, Sem g s x p (some q) /\ SemR g s x q o := by
  rw [semK_iff (by decide)]
  constructor
  · rintro ⟨n, h⟩
    cases n with
    | zero => cases h
    | succ n =>
      rw [evK_s, if_neg (by decide)] at h
      cases he : ev g s n x p with
      | none => rw [he] at h; cases h
      | some u =>
        rw [he] at h
        cases u with
        | none => simp at h; exact .inl ⟨⟨n, he⟩, h.symm⟩
        | some q => simp only [if_pos] at h; exact .inr ⟨q, ⟨n, he⟩, ⟨n, h⟩⟩
  · rintro (⟨⟨n, h⟩, rfl⟩ | ⟨q, ⟨n, h⟩, ⟨m, h'⟩⟩)
    · exact ⟨n + 1, by rw [evK_s, if_neg (by decide), h]; simp⟩
    · exact ⟨max n m + 1, by rw [evK_s, if_neg (by decide), ev_le h (Nat.le_max_left _ _)]; simp only [if_pos]; exact evR_le h' (Nat.le_max_right _ _)⟩
def lookK (k : Int) (p : Nat) : Option Nat -> Option Nat
  | none => if k = 10 then none else some p
  | some q => if k = 9 then some q else if k = 10 then some p else none
theorem sem9 {k a b c d : Int} {t : ByteArray} {x : Ex} {p : Nat} {o : Option Nat} (hk : 9 <= k) (hk' : k <= 11) : Sem g s (.mk k a b c d t [x]) p o ↔ ∃ u, Sem g s x p u /\ o = lookK k p u := by
  rw [semK_iff (by omega)]
  constructor
  · rintro ⟨n, h⟩
    cases n with
    | zero => cases h
    | succ n =>
      rw [evK_s, if_neg (by omega)] at h
      cases he : ev g s n x p with
      | none => rw [he] at h; cases h
      | some u =>
        rw [he] at h
        refine ⟨u, ⟨n, he⟩, ?_⟩
        cases u with
        | none =>
          simp only at h
          injection h with h
          rw [<- h, lookK]
          by_cases h10 : k = 10
          · rw [if_pos (.inr h10), if_pos h10]
          · rw [if_neg (by omega), if_neg h10]
        | some q =>
          simp only at h
          rw [if_neg (by omega)] at h
          simp only [lookK]
          by_cases h9 : k = 9
          · rw [if_pos h9] at h ⊢; injection h with h; exact h.symm
          rw [if_neg h9] at h ⊢
          by_cases h10 : k = 10
          · rw [if_pos h10] at h ⊢; injection h with h; exact h.symm
          · rw [if_neg h10] at h ⊢; injection h with h; exact h.symm
  · rintro ⟨u, ⟨n, h⟩, rfl⟩
    refine ⟨n + 1, ?_⟩
    rw [evK_s, if_neg (by omega), h]
    cases u with
    | none =>
      simp only [lookK]
      by_cases h10 : k = 10
      · rw [if_pos (.inr h10), if_pos h10]
      · rw [if_neg (by omega), if_neg h10]
    | some q =>
      simp only [lookK]
      rw [if_neg (by omega)]
      split
      · rfl
      split <;> rfl
theorem semS_app : ∀ {l m : List Ex} {p : Nat} {o : Option Nat}, SemS g s (l ++ m) p o ↔ (∃ q, SemS g s l p (some q) /\ SemS g s m q o) \/ (SemS g s l p none /\ o = none)
  | [], m, p, o => by
    rw [List.nil_append]
    constructor
    · exact fun h => .inl ⟨p, semS_nil.2 rfl, h⟩
    · rintro (⟨q, h1, h2⟩ | ⟨h1, _⟩)
      · rw [semS_nil] at h1; injection h1 with h1; rw [<- h1]; exact h2
      · rw [semS_nil] at h1; cases h1
  | e :: l, m, p, o => by
    rw [List.cons_append, semS_cons]
    constructor
    · rintro (⟨q, h1, h2⟩ | ⟨h1, rfl⟩)
      · rcases (semS_app (l := l)).1 h2 with ⟨r, h3, h4⟩ | ⟨h3, rfl⟩
        · exact .inl ⟨r, semS_cons.2 (.inl ⟨q, h1, h3⟩), h4⟩
        · exact .inr ⟨semS_cons.2 (.inl ⟨q, h1, h3⟩), rfl⟩
      · exact .inr ⟨semS_cons.2 (.inr ⟨h1, rfl⟩), rfl⟩
    · rintro (⟨r, h1, h2⟩ | ⟨h1, rfl⟩)
      · rcases semS_cons.1 h1 with ⟨q, h3, h4⟩ | ⟨_, h4⟩
        · exact .inl ⟨q, h3, (semS_app (l := l)).2 (.inl ⟨r, h4, h2⟩)⟩
        · cases h4
      · rcases semS_cons.1 h1 with ⟨q, h3, h4⟩ | ⟨h3, _⟩
        · exact .inl ⟨q, h3, (semS_app (l := l)).2 (.inr ⟨h4, rfl⟩)⟩
        · exact .inr ⟨h3, rfl⟩
theorem semA_app : ∀ {l m : List Ex} {p : Nat} {o : Option Nat}, SemA g s (l ++ m) p o ↔ (SemA g s l p none /\ SemA g s m p o) \/ (∃ q, SemA g s l p (some q) /\ o = some q)
  | [], m, p, o => by
    rw [List.nil_append]
    constructor
    · exact fun h => .inl ⟨semA_nil.2 rfl, h⟩
    · rintro (⟨_, h2⟩ | ⟨q, h1, _⟩)
      · exact h2
      · rw [semA_nil] at h1; cases h1
  | e :: l, m, p, o => by
    rw [List.cons_append, semA_cons]
    constructor
    · rintro (⟨h1, h2⟩ | ⟨q, h1, rfl⟩)
      · rcases (semA_app (l := l)).1 h2 with ⟨h3, h4⟩ | ⟨q, h3, rfl⟩
        · exact .inl ⟨semA_cons.2 (.inl ⟨h1, h3⟩), h4⟩
        · exact .inr ⟨q, semA_cons.2 (.inl ⟨h1, h3⟩), rfl⟩
      · exact .inr ⟨q, semA_cons.2 (.inr ⟨q, h1, rfl⟩), rfl⟩
    · rintro (⟨h1, h2⟩ | ⟨q, h1, rfl⟩)
      · rcases semA_cons.1 h1 with ⟨h3, h4⟩ | ⟨q, _, h4⟩
        · exact .inl ⟨h3, (semA_app (l := l)).2 (.inl ⟨h4, h2⟩)⟩
        · cases h4
      · rcases semA_cons.1 h1 with ⟨h3, h4⟩ | ⟨q', h3, h4⟩
        · exact .inl ⟨h3, (semA_app (l := l)).2 (.inr ⟨q, h4, rfl⟩)⟩
        · exact .inr ⟨q', h3, h4⟩
end
section
variable {g : List Rl} {fs : List Fa}
structure Lik (g : List Rl) (fs : List Fa) (e e' : Ex) : Prop where
  good : GoodE g fs e'
  fa : ∀ kn, LeL faOrd kn fs -> ofE g kn e' = ofE g kn e
  so : ∀ kn, soundE g fs kn e = true -> soundE g fs kn e' = true
  sem : ∀ (s : List UInt8) p o, p <= s.length -> Sem g s e p o -> Sem g s e' p o
  sz : nodes e' <= nodes e
  dp : depX e' <= depX e
theorem Lik.refl {e : Ex} (h : GoodE g fs e) : Lik g fs e e := ⟨h, fun _ _ => rfl, fun _ h => h, fun _ _ _ _ h => h, Nat.le_refl _, Nat.le_refl _⟩
theorem Lik.trans {e e' e'' : Ex} (h : Lik g fs e e') (h' : Lik g fs e' e'') : Lik g fs e e'' :=
  ⟨h'.good, fun kn hk => (h'.fa kn hk).trans (h.fa kn hk), fun kn hk => h'.so kn (h.so kn hk), fun s p o hp hs => h'.sem s p o hp (h.sem s p o hp hs), Nat.le_trans h'.sz h.sz, Nat.le_trans h'.dp h.dp⟩
structure SqL (g : List Rl) (fs : List Fa) (l m : List Ex) : Prop where
  good : ∀ e ∈ m, GoodE g fs e
  fa : ∀ kn, LeL faOrd kn fs -> ∀ x, (m.map (ofE g kn)).foldl thenF x = (l.map (ofE g kn)).foldl thenF x
  so : ∀ kn r, soundS g fs kn (l ++ r) = true -> soundS g fs kn (m ++ r) = true
  sem : ∀ (s : List UInt8) p o, p <= s.length -> SemS g s l p o -> SemS g s m p o
  sz : nodesAll m <= nodesAll l
  dp : depAll m <= depAll l
structure AlL (g : List Rl) (fs : List Fa) (l m : List Ex) : Prop where
  good : ∀ e ∈ m, GoodE g fs e
  fa : ∀ kn, LeL faOrd kn fs -> ∀ y, (m.map (ofE g kn)).foldr orF y = (l.map (ofE g kn)).foldr orF y
  so : ∀ kn, (∀ e ∈ l, soundE g fs kn e = true) -> ∀ e ∈ m, soundE g fs kn e = true
  sem : ∀ (s : List UInt8) p o, p <= s.length -> SemA g s l p o -> SemA g s m p o
  sz : nodesAll m <= nodesAll l
  dp : depAll m <= depAll l
theorem SqL.refl {l : List Ex} (h : ∀ e ∈ l, GoodE g fs e) : SqL g fs l l := ⟨h, fun _ _ _ => rfl, fun _ _ h => h, fun _ _ _ _ h => h, Nat.le_refl _, Nat.le_refl _⟩
theorem AlL.refl {l : List Ex} (h : ∀ e ∈ l, GoodE g fs e) : AlL g fs l l := ⟨h, fun _ _ _ => rfl, fun _ h => h, fun _ _ _ _ h => h, Nat.le_refl _, Nat.le_refl _⟩
theorem SqL.trans {l m q : List Ex} (h : SqL g fs l m) (h' : SqL g fs m q) : SqL g fs l q :=
  ⟨h'.good, fun kn hk x => (h'.fa kn hk x).trans (h.fa kn hk x), fun kn r hk => h'.so kn r (h.so kn r hk), fun s p o hp hs => h'.sem s p o hp (h.sem s p o hp hs), Nat.le_trans h'.sz h.sz, Nat.le_trans h'.dp h.dp⟩
theorem AlL.trans {l m q : List Ex} (h : AlL g fs l m) (h' : AlL g fs m q) : AlL g fs l q :=
  ⟨h'.good, fun kn hk x => (h'.fa kn hk x).trans (h.fa kn hk x), fun kn hk => h'.so kn (h.so kn hk), fun s p o hp hs => h'.sem s p o hp (h.sem s p o hp hs), Nat.le_trans h'.sz h.sz, Nat.le_trans h'.dp h.dp⟩
theorem sem_le (H : Fits g fs) {s : List UInt8} {e : Ex} (hr : Rt g e) {p q : Nat} (hp : p <= s.length) (h : Sem g s e p (some q)) : p <= q /\ q <= s.length := by
  obtain ⟨n, h⟩ := h
  have := (told H n).1 e p _ hr hp h
  exact ⟨this.1, this.2.1⟩
theorem semS_le (H : Fits g fs) {s : List UInt8} : ∀ {l : List Ex}, (∀ e ∈ l, GoodE g fs e) -> ∀ {p q : Nat}, p <= s.length -> SemS g s l p (some q) -> p <= q /\ q <= s.length
  | [], _, p, q, hp, h => by rw [semS_nil] at h; injection h with h; omega
  | e :: l, hg, p, q, hp, h => by
    rcases semS_cons.1 h with ⟨r, h1, h2⟩ | ⟨_, h2⟩
    · have := sem_le H (hg e (by simp)).rt hp h1
      have := semS_le H (fun x hx => hg x (by simp [hx])) this.2 h2
      omega
    · cases h2
theorem soundS_pre {kn : List Bool} {l m : List Ex} (h : soundS g fs kn l = true -> soundS g fs kn m = true) : ∀ a : List Ex, soundS g fs kn (a ++ l) = true -> soundS g fs kn (a ++ m) = true
  | [], hs => h hs
  | x :: a, hs => by
    rw [List.cons_append, soundS] at hs ⊢
    split at hs
    · cases hs
    rename_i h1
    rw [if_neg h1]
    split at hs
    · rename_i h2; rw [if_pos h2]
    rename_i h2
    rw [if_neg h2]
    exact soundS_pre h a hs
theorem SqL.pre (H : Fits g fs) {l m a : List Ex} (ha : ∀ e ∈ a, GoodE g fs e) (h : SqL g fs l m) : SqL g fs (a ++ l) (a ++ m) := by
  refine ⟨fun e he => ?_, fun kn hk x => ?_, fun kn r hs => ?_, fun s p o hp hs => ?_, ?_, ?_⟩
  · rcases List.mem_append.1 he with he | he
    · exact ha e he
    · exact h.good e he
  · rw [List.map_append, List.map_append, List.foldl_append, List.foldl_append, h.fa kn hk]
  · rw [List.append_assoc] at hs ⊢
    exact soundS_pre (h.so kn r) a hs
  · rw [semS_app] at hs ⊢
    rcases hs with ⟨q, h1, h2⟩ | h1
    · exact .inl ⟨q, h1, h.sem s q o (semS_le H ha hp h1).2 h2⟩
    · exact .inr h1
  · rw [nodesAll_app, nodesAll_app]; have := h.sz; omega
  · rw [depAll_app, depAll_app]; have := h.dp; omega
theorem SqL.post {l m b : List Ex} (hb : ∀ e ∈ b, GoodE g fs e) (h : SqL g fs l m) : SqL g fs (l ++ b) (m ++ b) := by
  refine ⟨fun e he => ?_, fun kn hk x => ?_, fun kn r hs => ?_, fun s p o hp hs => ?_, ?_, ?_⟩
  · rcases List.mem_append.1 he with he | he
    · exact h.good e he
    · exact hb e he
  · rw [List.map_append, List.map_append, List.foldl_append, List.foldl_append, h.fa kn hk]
  · rw [List.append_assoc] at hs ⊢
    exact h.so kn _ hs
  · rw [semS_app] at hs ⊢
    rcases hs with ⟨q, h1, h2⟩ | ⟨h1, h2⟩
    · exact .inl ⟨q, h.sem s p _ hp h1, h2⟩
    · exact .inr ⟨h.sem s p _ hp h1, h2⟩
  · rw [nodesAll_app, nodesAll_app]; have := h.sz; omega
  · rw [depAll_app, depAll_app]; have := h.dp; omega
theorem AlL.app {l m a b : List Ex} (h : AlL g fs l m) (h' : AlL g fs a b) : AlL g fs (l ++ a) (m ++ b) := by
  refine ⟨fun e he => ?_, fun kn hk x => ?_, fun kn hs e he => ?_, fun s p o hp hs => ?_, ?_, ?_⟩
  · rcases List.mem_append.1 he with he | he
    · exact h.good e he
    · exact h'.good e he
  · rw [List.map_append, List.map_append, List.foldr_append, List.foldr_append, h'.fa kn hk, h.fa kn hk]
  · rcases List.mem_append.1 he with he | he
    · exact h.so kn (fun x hx => hs x (List.mem_append_left _ hx)) e he
    · exact h'.so kn (fun x hx => hs x (List.mem_append_right _ hx)) e he
  · rw [semA_app] at hs ⊢
    rcases hs with ⟨h1, h2⟩ | ⟨q, h1, h2⟩
    · exact .inl ⟨h.sem s p _ hp h1, h'.sem s p o hp h2⟩
    · exact .inr ⟨q, h.sem s p _ hp h1, h2⟩
  · rw [nodesAll_app, nodesAll_app]; have := h.sz; have := h'.sz; omega
  · rw [depAll_app, depAll_app]; have := h.dp; have := h'.dp; omega
theorem SqL.one {e e' : Ex} (h : Lik g fs e e') : SqL g fs [e] [e'] := by
  refine ⟨fun x hx => ?_, fun kn hk x => ?_, fun kn r hs => ?_, fun s p o hp hs => ?_, ?_, ?_⟩
  · simp only [List.mem_singleton] at hx; rw [hx]; exact h.good
  · simp only [List.map_cons, List.map_nil, List.foldl_cons, List.foldl_nil]; rw [h.fa kn hk]
  · rw [List.singleton_append, soundS] at hs ⊢
    rw [h.fa fs (LeL.refl _ _)]
    split at hs
    · cases hs
    rename_i h1
    rw [if_neg (by rw [h.so kn (by simpa using h1)]; decide)]
    exact hs
  · rw [semS_cons] at hs ⊢
    rcases hs with ⟨q, h1, h2⟩ | ⟨h1, h2⟩
    · exact .inl ⟨q, h.sem s p _ hp h1, semS_nil.2 (semS_nil.1 h2)⟩
    · exact .inr ⟨h.sem s p _ hp h1, h2⟩
  · simp only [nodesAll]; have := h.sz; omega
  · simp only [depAll]; have := h.dp; omega
theorem AlL.one {e e' : Ex} (h : Lik g fs e e') : AlL g fs [e] [e'] := by
  refine ⟨fun x hx => ?_, fun kn hk x => ?_, fun kn hs x hx => ?_, fun s p o hp hs => ?_, ?_, ?_⟩
  · simp only [List.mem_singleton] at hx; rw [hx]; exact h.good
  · simp only [List.map_cons, List.map_nil, List.foldr_cons, List.foldr_nil]; rw [h.fa kn hk]
  · simp only [List.mem_singleton] at hx; rw [hx]; exact h.so kn (hs e (by simp))
  · rw [semA_cons] at hs ⊢
    rcases hs with ⟨h1, h2⟩ | ⟨q, h1, h2⟩
    · exact .inl ⟨h.sem s p _ hp h1, semA_nil.2 (semA_nil.1 h2)⟩
    · exact .inr ⟨q, h.sem s p _ hp h1, h2⟩
  · simp only [nodesAll]; have := h.sz; omega
  · simp only [depAll]; have := h.dp; omega
theorem SqL.map (H : Fits g fs) {f : Ex -> Ex} : ∀ {l : List Ex}, (∀ e ∈ l, GoodE g fs e) -> (∀ e ∈ l, Lik g fs e (f e)) -> SqL g fs l (l.map f)
  | [], _, _ => .refl fun e he => by cases he
  | e :: l, hg, h => by
    have h1 := SqL.one (h e (by simp))
    have h2 := SqL.map H (f := f) (l := l) (fun x hx => hg x (by simp [hx])) fun x hx => h x (by simp [hx])
    have h3 := (h1.post (b := l) fun x hx => hg x (by simp [hx])).trans (h2.pre H (a := [f e]) h1.good)
    exact h3
theorem AlL.map {f : Ex -> Ex} : ∀ {l : List Ex}, (∀ e ∈ l, Lik g fs e (f e)) -> AlL g fs l (l.map f)
  | [], _ => .refl fun e he => by cases he
  | e :: l, h => (AlL.one (h e (by simp))).app (AlL.map (f := f) (l := l) fun x hx => h x (by simp [hx]))
theorem SqL.skip {x : Ex} (hx : GoodE g fs x) (h1 : x.kd = 1) : SqL g fs [x] [] := by
  obtain ⟨k, a, b, c, d, t, ks⟩ := x
  obtain rfl : k = 1 := h1
  have hof : ∀ kn, ofE g kn (.mk 1 a b c d t ks) = faE := fun kn => by rw [ofE, if_pos rfl]; rfl
  refine ⟨fun e he => (by cases he), fun kn _ y => ?_, fun kn r hs => ?_, fun s p o hp hs => ?_, by simp [nodesAll], by simp [depAll]⟩
  · simp only [List.map_cons, List.map_nil, List.foldl_cons, List.foldl_nil]; rw [hof, then_unit]
  · rw [List.singleton_append, soundS, hof] at hs
    split at hs
    · cases hs
    rw [if_neg (by simp [faE])] at hs
    exact hs
  · have h2 : Sem g s (.mk 1 a b c d t ks) p (some p) := ⟨1, by rw [ev_s, if_pos rfl]⟩
    rcases semS_cons.1 hs with ⟨q, h3, h4⟩ | ⟨h3, _⟩
    · have := h2.eq h3
      injection this with this
      subst this
      exact h4
    · have := h2.eq h3
      cases this
theorem soundS_flat {kn : List Bool} {r : List Ex} : ∀ {ks : List Ex}, soundS g fs kn ks = true -> ((ks.map (ofE g fs)).foldl thenF faE).e = false \/ soundS g fs kn r = true -> soundS g fs kn (ks ++ r) = true
  | [], _, h => by
    rcases h with h | h
    · simp [faE] at h
    · exact h
  | x :: ks, hs, h => by
    rw [List.cons_append, soundS] at *
    split at hs
    · cases hs
    rename_i h1
    rw [if_neg h1]
    split at hs
    · rename_i h2; rw [if_pos h2]
    rename_i h2
    rw [if_neg h2]
    refine soundS_flat hs (h.imp_left fun h => ?_)
    rw [List.map_cons, List.foldl_cons, then_nil, fold_then] at h
    simp only [thenF, Bool.and_eq_false_iff] at h
    exact h.resolve_left h2
theorem GoodE.kid {k a b c d : Int} {t : ByteArray} {ks : List Ex} (h : GoodE g fs (.mk k a b c d t ks)) : ∀ e ∈ ks, GoodE g fs e := h.kids.1
theorem GoodE.five {a b c d : Int} {t : ByteArray} {ks : List Ex} (h : GoodE g fs (.mk 5 a b c d t ks)) : 2 <= ks.length /\ ks.length <= 8 := by
  have := fit_cases h.kids.2.1
  omega
theorem GoodE.six {a b c d : Int} {t : ByteArray} {ks : List Ex} (h : GoodE g fs (.mk 6 a b c d t ks)) : 2 <= ks.length /\ ks.length <= 8 := by
  have := fit_cases h.kids.2.1
  omega
theorem of5 {kn : List Fa} {a b c d : Int} {t : ByteArray} {ks : List Ex} (h : ks ≠ []) : ofE g kn (.mk 5 a b c d t ks) = (ks.map (ofE g kn)).foldl thenF faE := by
  rw [ofE, if_neg (by decide), if_neg (by decide), if_neg (by decide), if_neg (by decide), if_pos rfl, ofEs_map, seqF_fold (by simpa using h)]
theorem of6 {kn : List Fa} {a b c d : Int} {t : ByteArray} {ks : List Ex} (h : ks ≠ []) : ofE g kn (.mk 6 a b c d t ks) = (ks.map (ofE g kn)).foldr orF faN := by
  rw [ofE, if_neg (by decide), if_neg (by decide), if_neg (by decide), if_neg (by decide), if_neg (by decide), if_pos rfl, ofEs_map, altF_fold (by simpa using h)]
theorem ne_of_len {l : List Ex} (h : 0 < l.length) : l ≠ [] := fun e => by rw [e] at h; simp at h
theorem SqL.flat {a b c d : Int} {t : ByteArray} {ks : List Ex} (h : GoodE g fs (.mk 5 a b c d t ks)) : SqL g fs [.mk 5 a b c d t ks] ks := by
  have hne : ks ≠ [] := ne_of_len (by have := h.five; omega)
  refine ⟨h.kid, fun kn _ y => ?_, fun kn r hs => ?_, fun s p o hp hs => ?_, ?_, ?_⟩
  · simp only [List.map_cons, List.map_nil, List.foldl_cons, List.foldl_nil]
    rw [of5 hne, <- fold_then]
  · rw [List.singleton_append, soundS, of5 hne] at hs
    split at hs
    · cases hs
    rename_i h1
    rw [soundE, if_neg (by decide), if_pos rfl] at h1
    refine soundS_flat (by simpa using h1) ?_
    split at hs
    · rename_i h2; exact .inl h2
    · exact .inr hs
  · rcases semS_cons.1 hs with ⟨q, h3, h4⟩ | ⟨h3, h4⟩
    · rw [semS_nil] at h4
      rw [h4]
      exact sem5.1 h3
    · rw [h4]
      exact sem5.1 h3
  · simp only [nodesAll, nodes]; omega
  · simp only [depAll, depX]; omega
theorem soundA_all {kn : List Bool} : ∀ {ks : List Ex}, soundA g fs kn ks = true ↔ ∀ e ∈ ks, soundE g fs kn e = true
  | [] => by simp [soundA]
  | x :: ks => by
    rw [soundA]
    by_cases h : soundE g fs kn x = true
    · rw [if_neg (by rw [h]; decide), soundA_all]
      simp [h]
    · rw [if_pos (by simpa using h)]
      simp [h]
theorem AlL.flat {a b c d : Int} {t : ByteArray} {ks : List Ex} (h : GoodE g fs (.mk 6 a b c d t ks)) : AlL g fs [.mk 6 a b c d t ks] ks := by
  have hne : ks ≠ [] := ne_of_len (by have := h.six; omega)
  refine ⟨h.kid, fun kn _ y => ?_, fun kn hs => ?_, fun s p o hp hs => ?_, ?_, ?_⟩
  · simp only [List.map_cons, List.map_nil, List.foldr_cons, List.foldr_nil]
    rw [of6 hne, <- fold_or]
  · have h1 := hs (.mk 6 a b c d t ks) (by simp)
    rw [soundE, if_neg (by decide), if_neg (by decide)] at h1
    exact soundA_all.1 h1
  · rcases semA_cons.1 hs with ⟨h3, h4⟩ | ⟨q, h3, h4⟩
    · rw [semA_nil] at h4
      rw [h4]
      exact sem6.1 h3
    · rw [h4]
      exact sem6.1 h3
  · simp only [nodesAll, nodes]; omega
  · simp only [depAll, depX]; omega
theorem AlL.cut (H : Fits g fs) {x : Ex} {xs : List Ex} (h : GoodE g fs x) (hf : (ofE g fs x).f = false) : AlL g fs (x :: xs) [x] := by
  refine ⟨fun e he => ?_, fun kn hk y => ?_, fun kn hs e he => ?_, fun s p o hp hs => ?_, ?_, ?_⟩
  · simp only [List.mem_singleton] at he; rw [he]; exact h
  · have hm := (of_mono (g := g) hk x).2.2
    have hf' : (ofE g kn x).f = false := by
      cases hh : (ofE g kn x).f
      · rfl
      · rw [hm hh] at hf; cases hf
    simp only [List.map_cons, List.map_nil, List.foldr_cons, List.foldr_nil]
    rw [or_cut _ hf', or_cut _ hf']
  · simp only [List.mem_singleton] at he; rw [he]; exact hs x (by simp)
  · rcases semA_cons.1 hs with ⟨⟨n, h3⟩, _⟩ | ⟨q, h3, h4⟩
    · have := (told H n).1 x p _ h.rt hp h3
      have : (ofE g fs x).f = true := this
      rw [this] at hf
      cases hf
    · exact semA_cons.2 (.inr ⟨q, h3, h4⟩)
  · simp only [nodesAll]; omega
  · simp only [depAll]; omega
end
end Go.Proofs.Ytkmcnekjimobhaa
