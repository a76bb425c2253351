/- What a grammar means: plain, by fuel. Ford: what a grammar does it may do; of a grammar that is well all comes to an end. Plain. Ford: of a grammar that is well all comes to an end. Plain. What the functions of package set that go word by word answer. What set.Join and set.Meet answer. -/
import Derived.Test.YtndhbdbfjkmloaaGreatDoorJTopBook3
import Derived.Test.YtndhbdbfjkmloaaGreatDoorJTopBook4
import Derived.Test.YtndhbdbfjkmloaaGreatDoorJTopBook0
import Derived.Test.YtndhbdbfjkmloaaGreatDoorProg
import Derived.Deep.RegionHeld3
import Derived.Deep.RegionWith
namespace Go.Proofs.YtndhbdbfjkmloaaGreatDoor

/-- is a byte in a set? -/
def hasE (a b c d : Int) (x : Nat) : Bool := hasN [a.toNat, b.toNat, c.toNat, d.toNat] x
/-- does a text stand at a place? -/
def litAt (s : List UInt8) (at_ : Nat) (t : List UInt8) : Bool := t.isPrefixOf (s.drop at_)

/-- what is to be done: an expression, one of one kid, a sequence's kids, alternatives, again and again -/
inductive Job where
  | ex (e : Ex)
  | kid (k : Int) (e : Ex)
  | seq (es : List Ex)
  | alt (es : List Ex)
  | rep (e : Ex)
/-- what comes of it at a place: none, it did not come to an end so soon; some none, it fails; some (some to), it takes all till there -/
def evJ (g : List Rl) (s : List UInt8) : Nat → Job → Nat → Option (Option Nat)
  | 0, _, _ => none
  | n + 1, .ex (.mk k a b c d t ks), p =>
    if k = 1 then some (some p)
    else if k = 2 then some (if p < s.length ∧ hasE a b c d (bt s p) = true then some (p + 1) else none)
    else if k = 3 then some (if litAt s p t.data.toList = true then some (p + t.size) else none)
    else if k = 4 then (match g[(fnd g t.data.toList).toNat]? with
      | some r => evJ g s n (.ex r.2) p
      | none => some none)
    else if k = 5 then evJ g s n (.seq ks) p
    else if k = 6 then evJ g s n (.alt ks) p
    else (match ks with
      | [] => some none
      | e :: _ => evJ g s n (.kid k e) p)
  | n + 1, .kid k e, p =>
    if k = 7 then evJ g s n (.rep e) p
    else match evJ g s n (.ex e) p with
      | none => none
      | some none => some (if k = 8 ∨ k = 10 then none else some p)
      | some (some to) => if k = 8 then evJ g s n (.rep e) to else if k = 9 then some (some to) else if k = 10 then some (some p) else some none
  | _ + 1, .seq [], p => some (some p)
  | n + 1, .seq (e :: es), p => match evJ g s n (.ex e) p with
    | none => none
    | some none => some none
    | some (some to) => evJ g s n (.seq es) to
  | _ + 1, .alt [], _ => some none
  | n + 1, .alt (e :: es), p => match evJ g s n (.ex e) p with
    | none => none
    | some none => evJ g s n (.alt es) p
    | some (some to) => some (some to)
  | n + 1, .rep e, p => match evJ g s n (.ex e) p with
    | none => none
    | some none => some (some p)
    | some (some to) => evJ g s n (.rep e) to
def ev (g : List Rl) (s : List UInt8) (n : Nat) (e : Ex) (p : Nat) : Option (Option Nat) := evJ g s n (.ex e) p
def evK (g : List Rl) (s : List UInt8) (n : Nat) (k : Int) (e : Ex) (p : Nat) : Option (Option Nat) := evJ g s n (.kid k e) p
def evS (g : List Rl) (s : List UInt8) (n : Nat) (es : List Ex) (p : Nat) : Option (Option Nat) := evJ g s n (.seq es) p
def evA (g : List Rl) (s : List UInt8) (n : Nat) (es : List Ex) (p : Nat) : Option (Option Nat) := evJ g s n (.alt es) p
def evR (g : List Rl) (s : List UInt8) (n : Nat) (e : Ex) (p : Nat) : Option (Option Nat) := evJ g s n (.rep e) p
theorem ev_s (g : List Rl) (s : List UInt8) (n : Nat) (k a b c d : Int) (t : ByteArray) (ks : List Ex) (p : Nat) : ev g s (n + 1) (.mk k a b c d t ks) p =
    if k = 1 then some (some p)
    else if k = 2 then some (if p < s.length ∧ hasE a b c d (bt s p) = true then some (p + 1) else none)
    else if k = 3 then some (if litAt s p t.data.toList = true then some (p + t.size) else none)
    else if k = 4 then (match g[(fnd g t.data.toList).toNat]? with
      | some r => ev g s n r.2 p
      | none => some none)
    else if k = 5 then evS g s n ks p
    else if k = 6 then evA g s n ks p
    else (match ks with
      | [] => some none
      | e :: _ => evK g s n k e p) := rfl
theorem evK_s (g : List Rl) (s : List UInt8) (n : Nat) (k : Int) (e : Ex) (p : Nat) : evK g s (n + 1) k e p =
    if k = 7 then evR g s n e p
    else match ev g s n e p with
      | none => none
      | some none => some (if k = 8 ∨ k = 10 then none else some p)
      | some (some to) => if k = 8 then evR g s n e to else if k = 9 then some (some to) else if k = 10 then some (some p) else some none := rfl
theorem evS_nil (g : List Rl) (s : List UInt8) (n p : Nat) : evS g s (n + 1) [] p = some (some p) := rfl
theorem evS_cons (g : List Rl) (s : List UInt8) (n : Nat) (e : Ex) (es : List Ex) (p : Nat) : evS g s (n + 1) (e :: es) p = match ev g s n e p with
    | none => none
    | some none => some none
    | some (some to) => evS g s n es to := rfl
theorem evA_nil (g : List Rl) (s : List UInt8) (n p : Nat) : evA g s (n + 1) [] p = some none := rfl
theorem evA_cons (g : List Rl) (s : List UInt8) (n : Nat) (e : Ex) (es : List Ex) (p : Nat) : evA g s (n + 1) (e :: es) p = match ev g s n e p with
    | none => none
    | some none => evA g s n es p
    | some (some to) => some (some to) := rfl
theorem evR_s (g : List Rl) (s : List UInt8) (n : Nat) (e : Ex) (p : Nat) : evR g s (n + 1) e p = match ev g s n e p with
    | none => none
    | some none => some (some p)
    | some (some to) => evR g s n e to := rfl

theorem ev_mono (g : List Rl) (s : List UInt8) : ∀ n, (∀ e p o, ev g s n e p = some o → ev g s (n + 1) e p = some o) ∧ (∀ k e p o, evK g s n k e p = some o → evK g s (n + 1) k e p = some o) ∧
    (∀ es p o, evS g s n es p = some o → evS g s (n + 1) es p = some o) ∧ (∀ es p o, evA g s n es p = some o → evA g s (n + 1) es p = some o) ∧ (∀ e p o, evR g s n e p = some o → evR g s (n + 1) e p = some o) := by
  intro n
  induction n with
  | zero => exact ⟨fun e p o h => (by cases h), fun k e p o h => (by cases h), fun es p o h => (by cases h), fun es p o h => (by cases h), fun e p o h => (by cases h)⟩
  | succ n ih =>
    obtain ⟨h1, h2, h3, h4, h5⟩ := ih
    refine ⟨?_, ?_, ?_, ?_, ?_⟩
    · rintro ⟨k, a, b, c, d, t, ks⟩ p o h
      rw [ev_s] at h
      rw [ev_s]
      by_cases k1 : k = 1
      · rw [if_pos k1] at h ⊢; exact h
      rw [if_neg k1] at h ⊢
      by_cases k2 : k = 2
      · rw [if_pos k2] at h ⊢; exact h
      rw [if_neg k2] at h ⊢
      by_cases k3 : k = 3
      · rw [if_pos k3] at h ⊢; exact h
      rw [if_neg k3] at h ⊢
      by_cases k4 : k = 4
      · rw [if_pos k4] at h ⊢
        cases hg : g[(fnd g t.data.toList).toNat]? with
        | none => rw [hg] at h; exact h
        | some r => rw [hg] at h; exact h1 _ _ _ h
      rw [if_neg k4] at h ⊢
      by_cases k5 : k = 5
      · rw [if_pos k5] at h ⊢; exact h3 _ _ _ h
      rw [if_neg k5] at h ⊢
      by_cases k6 : k = 6
      · rw [if_pos k6] at h ⊢; exact h4 _ _ _ h
      rw [if_neg k6] at h ⊢
      cases ks with
      | nil => exact h
      | cons e es => exact h2 _ _ _ _ h
    · intro k e p o h
      rw [evK_s] at h
      rw [evK_s]
      by_cases k7 : k = 7
      · rw [if_pos k7] at h ⊢; exact h5 _ _ _ h
      rw [if_neg k7] at h ⊢
      cases he : ev g s n e p with
      | none => rw [he] at h; cases h
      | some u =>
        rw [he] at h
        rw [h1 _ _ _ he]
        cases u with
        | none => exact h
        | some to =>
          simp only at h ⊢
          by_cases k8 : k = 8
          · rw [if_pos k8] at h ⊢; exact h5 _ _ _ h
          · rw [if_neg k8] at h ⊢; exact h
    · intro es p o h
      cases es with
      | nil => rw [evS_nil] at h; rw [evS_nil]; exact h
      | cons e es =>
        rw [evS_cons] at h
        rw [evS_cons]
        cases he : ev g s n e p with
        | none => rw [he] at h; cases h
        | some u =>
          rw [he] at h
          rw [h1 _ _ _ he]
          cases u with
          | none => exact h
          | some to => exact h3 _ _ _ h
    · intro es p o h
      cases es with
      | nil => rw [evA_nil] at h; rw [evA_nil]; exact h
      | cons e es =>
        rw [evA_cons] at h
        rw [evA_cons]
        cases he : ev g s n e p with
        | none => rw [he] at h; cases h
        | some u =>
          rw [he] at h
          rw [h1 _ _ _ he]
          cases u with
          | none => exact h4 _ _ _ h
          | some to => exact h
    · intro e p o h
      rw [evR_s] at h
      rw [evR_s]
      cases he : ev g s n e p with
      | none => rw [he] at h; cases h
      | some u =>
        rw [he] at h
        rw [h1 _ _ _ he]
        cases u with
        | none => exact h
        | some to => exact h5 _ _ _ h
theorem ev_le {g : List Rl} {s : List UInt8} {n m : Nat} {e : Ex} {p : Nat} {o : Option Nat} (h : ev g s n e p = some o) (hm : n ≤ m) : ev g s m e p = some o := by
  induction hm with
  | refl => exact h
  | step _ ih => exact (ev_mono g s _).1 _ _ _ ih
theorem evS_le {g : List Rl} {s : List UInt8} {n m : Nat} {e : List Ex} {p : Nat} {o : Option Nat} (h : evS g s n e p = some o) (hm : n ≤ m) : evS g s m e p = some o := by
  induction hm with
  | refl => exact h
  | step _ ih => exact (ev_mono g s _).2.2.1 _ _ _ ih
theorem evA_le {g : List Rl} {s : List UInt8} {n m : Nat} {e : List Ex} {p : Nat} {o : Option Nat} (h : evA g s n e p = some o) (hm : n ≤ m) : evA g s m e p = some o := by
  induction hm with
  | refl => exact h
  | step _ ih => exact (ev_mono g s _).2.2.2.1 _ _ _ ih
theorem evR_le {g : List Rl} {s : List UInt8} {n m : Nat} {e : Ex} {p : Nat} {o : Option Nat} (h : evR g s n e p = some o) (hm : n ≤ m) : evR g s m e p = some o := by
  induction hm with
  | refl => exact h
  | step _ ih => exact (ev_mono g s _).2.2.2.2 _ _ _ ih
theorem ev_eq {g : List Rl} {s : List UInt8} {n m : Nat} {e : Ex} {p : Nat} {o o' : Option Nat} (h : ev g s n e p = some o) (h' : ev g s m e p = some o') : o = o' := by
  have h1 := ev_le h (Nat.le_max_left n m)
  have h2 := ev_le h' (Nat.le_max_right n m)
  rw [h1] at h2
  injection h2
end Go.Proofs.YtndhbdbfjkmloaaGreatDoor
namespace Go.Proofs.YtndhbdbfjkmloaaGreatDoor

/-- what an outcome is allowed by facts -/
def Told (x : Fa) (p len : Nat) (o : Option Nat) : Prop := match o with
  | none => x.f = true
  | some to => p ≤ to ∧ to ≤ len ∧ (to = p → x.e = true) ∧ (p < to → x.a = true)
/-- all rules do what their facts tell -/
structure Fits (g : List Rl) (fs : List Fa) : Prop where
  len : fs.length = g.length
  fix : ∀ (i : Nat) (r : Rl), g[i]? = some r → fs[i]? = some (ofE g fs r.2)
  right : ∀ r ∈ g, Rt g r.2

theorem litAt_le {s : List UInt8} {p : Nat} {t : List UInt8} (h : litAt s p t = true) (hp : p ≤ s.length) : p + t.length ≤ s.length := by
  unfold litAt at h
  have := (List.isPrefixOf_iff_prefix.1 h).length_le
  rw [List.length_drop] at this
  omega
theorem fnd_at {g : List Rl} {t : List UInt8} (h : 0 ≤ fnd g t) : ∃ r, g[(fnd g t).toNat]? = some r ∧ r.1.data.toList = t := by
  suffices hh : ∀ (g : List Rl) (i : Nat), 0 ≤ fndFrom g t i → ∃ r, i ≤ (fndFrom g t i).toNat ∧ g[(fndFrom g t i).toNat - i]? = some r ∧ r.1.data.toList = t by
    obtain ⟨r, _, h2, h3⟩ := hh g 0 h
    exact ⟨r, by simpa [fnd] using h2, h3⟩
  intro g
  induction g with
  | nil => intro i h; simp [fndFrom] at h
  | cons r rs ih =>
    intro i h
    unfold fndFrom at h ⊢
    split
    · rename_i he
      exact ⟨r, by simp, by simp, he⟩
    · rename_i he
      rw [if_neg he] at h
      obtain ⟨r', h1, h2, h3⟩ := ih (i + 1) h
      refine ⟨r', by omega, ?_, h3⟩
      rw [show (fndFrom rs t (i + 1)).toNat - i = ((fndFrom rs t (i + 1)).toNat - (i + 1)) + 1 by omega, List.getElem?_cons_succ]
      exact h2

section
variable {g : List Rl} {s : List UInt8} {fs : List Fa}

theorem told_seq {x y : Fa} {p q len : Nat} {o : Option Nat} (h1 : Told x p len (some q)) (h2 : Told y q len o) : Told (thenF x y) p len o := by
  obtain ⟨a1, a2, a3, a4⟩ := h1
  cases o with
  | none =>
    show (thenF x y).f = true
    have hy : y.f = true := h2
    simp only [thenF, Bool.or_eq_true, Bool.and_eq_true]
    by_cases hpq : q = p
    · exact .inr ⟨.inl (a3 hpq), hy⟩
    · exact .inr ⟨.inr (a4 (by omega)), hy⟩
  | some to =>
    obtain ⟨b1, b2, b3, b4⟩ := h2
    refine ⟨by omega, b2, fun h => ?_, fun h => ?_⟩
    · simp only [thenF, Bool.and_eq_true]
      exact ⟨a3 (by omega), b3 (by omega)⟩
    · simp only [thenF, Bool.or_eq_true, Bool.and_eq_true]
      by_cases hpq : q = p
      · exact .inr ⟨a3 hpq, b4 (by omega)⟩
      · by_cases hqt : to = q
        · exact .inl ⟨a4 (by omega), .inl (b3 hqt)⟩
        · exact .inl ⟨a4 (by omega), .inr (b4 (by omega))⟩
theorem told_fail {x y : Fa} {p len : Nat} (h : Told x p len none) : Told (thenF x y) p len none := by
  show (thenF x y).f = true
  have : x.f = true := h
  simp [thenF, this]
theorem told (H : Fits g fs) : ∀ n, (∀ e p o, Rt g e → p ≤ s.length → ev g s n e p = some o → Told (ofE g fs e) p s.length o) ∧
    (∀ k e p o, (∃ a b c d t, Rt g (.mk k a b c d t [e])) → 7 ≤ k → k ≤ 11 → Rt g e → p ≤ s.length → evK g s n k e p = some o →
      Told (if k = 7 then starF (ofE g fs e) else if k = 8 then thenF (ofE g fs e) (starF (ofE g fs e)) else if k = 9 then orF (ofE g fs e) ⟨true, false, false⟩ else if k = 10 then ⟨(ofE g fs e).e || (ofE g fs e).a, false, (ofE g fs e).f⟩ else ⟨(ofE g fs e).f, false, (ofE g fs e).e || (ofE g fs e).a⟩) p s.length o) ∧
    (∀ es p o x q, (∀ e ∈ es, Rt g e) → q ≤ p → p ≤ s.length → Told x q s.length (some p) → evS g s n es p = some o → Told ((ofEs g fs es).foldl thenF x) q s.length o) ∧
    (∀ es p o, (∀ e ∈ es, Rt g e) → es ≠ [] → p ≤ s.length → evA g s n es p = some o → Told (altF (ofEs g fs es)) p s.length o) ∧
    (∀ e p q o, Rt g e → q ≤ p → p ≤ s.length → (q < p → (ofE g fs e).a = true) → evR g s n e p = some o → Told (starF (ofE g fs e)) q s.length o) := by
  intro n
  induction n with
  | zero => exact ⟨fun e p o _ _ h => (by cases h), fun k e p o _ _ _ _ _ h => (by cases h), fun es p o x q _ _ _ _ h => (by cases h), fun es p o _ _ _ h => (by cases h), fun e p q o _ _ _ _ h => (by cases h)⟩
  | succ n ih =>
    obtain ⟨h1, h2, h3, h4, h5⟩ := ih
    refine ⟨?_, ?_, ?_, ?_, ?_⟩
    · rintro e p o hR hp h
      have hR0 := hR
      cases hR with
      | mk k a b c d t ks hfit hname hkids =>
      have hfc := fit_cases hfit
      rw [ev_s] at h
      rw [ofE]
      by_cases k1 : k = 1
      · rw [if_pos k1] at h ⊢
        injection h with h; subst h
        exact ⟨Nat.le_refl _, hp, fun _ => rfl, fun h => by omega⟩
      rw [if_neg k1] at h ⊢
      by_cases k2 : k = 2
      · rw [if_pos k2] at h ⊢
        injection h with h; subst h
        split
        · rename_i hh
          refine ⟨by omega, by omega, fun h => by omega, fun _ => ?_⟩
          simp only [Bool.not_eq_true']
          cases hz : (a == 0 && (b == 0 && (c == 0 && d == 0)))
          · rfl
          · simp only [Bool.and_eq_true, beq_iff_eq] at hz
            obtain ⟨rfl, rfl, rfl, rfl⟩ := hz
            have := hh.2
            unfold hasE hasN at this
            have hz : ([(0 : Int).toNat, (0 : Int).toNat, (0 : Int).toNat, (0 : Int).toNat] : List Nat).getD (bt s p / 64) 0 = 0 := by
              match bt s p / 64 with
              | 0 => rfl
              | 1 => rfl
              | 2 => rfl
              | 3 => rfl
              | n + 4 => rfl
            rw [hz] at this
            simp at this
        · rfl
      rw [if_neg k2] at h ⊢
      by_cases k3 : k = 3
      · rw [if_pos k3] at h ⊢
        injection h with h; subst h
        split
        · rename_i hh
          have hl := litAt_le hh hp
          have hts : t.data.toList.length = t.size := by simp
          have htne : t.data.toList ≠ [] := by
            rcases hfc with h | h | h | h | h | h | h
            all_goals first | (exact h.2.2.1) | (exfalso; omega)
          have hpos := List.length_pos_iff.2 htne
          exact ⟨by omega, by omega, fun h => by omega, fun _ => rfl⟩
        · rfl
      rw [if_neg k3] at h ⊢
      by_cases k4 : k = 4
      · rw [if_pos k4] at h ⊢
        obtain ⟨r, hr, _⟩ := fnd_at (hname k4)
        rw [hr] at h
        have := h1 _ _ _ (H.right r (List.mem_of_getElem? hr)) hp h
        rw [List.getD_eq_getElem?_getD, H.fix _ _ hr, Option.getD_some]
        exact this
      rw [if_neg k4] at h ⊢
      by_cases k5 : k = 5
      · rw [if_pos k5] at h ⊢
        cases ks with
        | nil => exfalso; simp at hfc; omega
        | cons e0 es =>
          cases n with
          | zero => cases h
          | succ n =>
            rw [ofEs, seqF]
            rw [evS_cons] at h
            have hR0 := hkids e0 (by simp)
            cases he : ev g s n e0 p with
            | none => rw [he] at h; cases h
            | some u =>
              rw [he] at h
              have ht := h1 _ _ _ hR0 hp ((ev_mono g s n).1 _ _ _ he)
              cases u with
              | none =>
                simp only at h
                injection h with h; subst h
                have : ∀ (l : List Fa) (x : Fa), x.f = true → (l.foldl thenF x).f = true := by
                  intro l
                  induction l with
                  | nil => intro x hx; exact hx
                  | cons y l ih => intro x hx; exact ih _ (by simp [thenF, hx])
                exact this _ _ ht
              | some to =>
                exact h3 es to o _ p (fun e he => hkids e (by simp [he])) ht.1 ht.2.1 ht ((ev_mono g s n).2.2.1 _ _ _ h)
      rw [if_neg k5] at h ⊢
      by_cases k6 : k = 6
      · rw [if_pos k6] at h ⊢
        exact h4 ks p o hkids (fun h => by subst h; simp at hfc; omega) hp h
      rw [if_neg k6] at h ⊢
      have h7 : 7 ≤ k ∧ k ≤ 11 ∧ ks.length = 1 := by omega
      match ks, h7.2.2 with
      | [e0], _ =>
        have := h2 k e0 p o ⟨a, b, c, d, t, hR0⟩ h7.1 h7.2.1 (hkids e0 (by simp)) hp h
        simp only [ofEs, kid0]
        exact this
    · rintro k e p o _ hk7 hk11 hR hp h
      rw [evK_s] at h
      by_cases k7 : k = 7
      · rw [if_pos k7] at h ⊢
        exact h5 e p p o hR (Nat.le_refl _) hp (fun h => by omega) h
      rw [if_neg k7] at h ⊢
      cases he : ev g s n e p with
      | none => rw [he] at h; cases h
      | some u =>
        rw [he] at h
        have ht := h1 _ _ _ hR hp he
        cases u with
        | none =>
          have hf : (ofE g fs e).f = true := ht
          simp only at h
          injection h with h; subst h
          by_cases k8 : k = 8
          · rw [if_pos k8, if_pos (.inl k8)]
            exact told_fail ht
          rw [if_neg k8]
          by_cases k9 : k = 9
          · rw [if_pos k9, if_neg (by omega)]
            exact ⟨Nat.le_refl _, hp, fun _ => by simp [orF, hf], fun h => by omega⟩
          rw [if_neg k9]
          by_cases k10 : k = 10
          · rw [if_pos k10, if_pos (.inr k10)]
            exact hf
          rw [if_neg k10, if_neg (by omega)]
          exact ⟨Nat.le_refl _, hp, fun _ => hf, fun h => by omega⟩
        | some to =>
          simp only at h
          have hsome : ((ofE g fs e).e || (ofE g fs e).a) = true := by
            rw [Bool.or_eq_true]
            by_cases hpt : to = p
            · exact .inl (ht.2.2.1 hpt)
            · exact .inr (ht.2.2.2 (by have := ht.1; omega))
          by_cases k8 : k = 8
          · rw [if_pos k8] at h ⊢
            exact told_seq ht (h5 e to to o hR (Nat.le_refl _) ht.2.1 (fun h => by omega) h)
          rw [if_neg k8] at h ⊢
          by_cases k9 : k = 9
          · rw [if_pos k9] at h ⊢
            injection h with h; subst h
            obtain ⟨a1, a2, a3, a4⟩ := ht
            exact ⟨a1, a2, fun h => by simp [orF, a3 h], fun h => by simp [orF, a4 h]⟩
          rw [if_neg k9] at h ⊢
          by_cases k10 : k = 10
          · rw [if_pos k10] at h ⊢
            injection h with h; subst h
            exact ⟨Nat.le_refl _, hp, fun _ => hsome, fun h => by omega⟩
          rw [if_neg k10] at h ⊢
          injection h with h; subst h
          exact hsome
    · intro es p o x q hes hqp hp hx h
      cases es with
      | nil =>
        rw [evS_nil] at h
        injection h with h; subst h
        rw [ofEs, List.foldl_nil]
        exact hx
      | cons e es =>
        rw [evS_cons] at h
        rw [ofEs, List.foldl_cons]
        cases he : ev g s n e p with
        | none => rw [he] at h; cases h
        | some u =>
          rw [he] at h
          have ht := h1 _ _ _ (hes e (by simp)) hp he
          cases u with
          | none =>
            simp only at h
            injection h with h; subst h
            have hz := told_seq hx ht
            have : ∀ (l : List Fa) (x : Fa), x.f = true → (l.foldl thenF x).f = true := by
              intro l
              induction l with
              | nil => intro x hx; exact hx
              | cons y l ih => intro x hx; exact ih _ (by simp [thenF, hx])
            exact this _ _ hz
          | some to =>
            exact h3 es to o _ q (fun e he => hes e (by simp [he])) (by have := ht.1; omega) ht.2.1 (told_seq hx ht) h
    · intro es p o hes hne hp h
      cases es with
      | nil => exact absurd rfl hne
      | cons e es =>
        rw [evA_cons] at h
        rw [ofEs]
        cases he : ev g s n e p with
        | none => rw [he] at h; cases h
        | some u =>
          rw [he] at h
          have ht := h1 _ _ _ (hes e (by simp)) hp he
          cases u with
          | none =>
            simp only at h
            have hf : (ofE g fs e).f = true := ht
            cases es with
            | nil =>
              cases n with
              | zero => cases h
              | succ n =>
                rw [evA_nil] at h
                injection h with h; subst h
                rw [ofEs, altF]
                exact ht
            | cons e2 es =>
              have := h4 (e2 :: es) p o (fun e he => hes e (by simp [he])) (by simp) hp h
              rw [ofEs] at this ⊢
              rw [altF]
              cases o with
              | none =>
                have : (altF (ofE g fs e2 :: ofEs g fs es)).f = true := this
                show (orF _ _).f = true
                simp [orF, hf, this]
              | some to =>
                obtain ⟨b1, b2, b3, b4⟩ := this
                exact ⟨b1, b2, fun h => by simp [orF, hf, b3 h], fun h => by simp [orF, hf, b4 h]⟩
          | some to =>
            simp only at h
            injection h with h; subst h
            obtain ⟨b1, b2, b3, b4⟩ := ht
            cases es with
            | nil =>
              rw [ofEs, altF]
              exact ⟨b1, b2, b3, b4⟩
            | cons e2 es =>
              rw [ofEs, altF]
              exact ⟨b1, b2, fun h => by simp [orF, b3 h], fun h => by simp [orF, b4 h]⟩
    · intro e p q o hR hqp hp hqa h
      rw [evR_s] at h
      cases he : ev g s n e p with
      | none => rw [he] at h; cases h
      | some u =>
        rw [he] at h
        have ht := h1 _ _ _ hR hp he
        cases u with
        | none =>
          simp only at h
          injection h with h; subst h
          have hf : (ofE g fs e).f = true := ht
          exact ⟨hqp, hp, fun _ => hf, fun h => hqa h⟩
        | some to =>
          refine h5 e to q o hR (by have := ht.1; omega) ht.2.1 (fun h => ?_) h
          by_cases hpt : to = p
          · exact hqa (by omega)
          · exact ht.2.2.2 (by have := ht.1; omega)
end
end Go.Proofs.YtndhbdbfjkmloaaGreatDoor
namespace Go.Proofs.YtndhbdbfjkmloaaGreatDoor

def nxB (g : List Rl) (fs : List Fa) (kn : List Bool) (i : Nat) : Bool := match g[i]? with
  | some r => soundE g fs kn r.2
  | none => false
def knownG (g : List Rl) (fs : List Fa) : List Bool := growG (nxB g fs) (wtL boOrd (List.replicate g.length false) + 1) (List.replicate g.length false)
def badLoop (g : List Rl) (fs : List Fa) : List Rl → Nat → Option Nat
  | [], _ => none
  | r :: rs, i => if loopsE g fs r.2 = true then some i else badLoop g fs rs (i + 1)
def badLeft : List Bool → Nat → Option Nat
  | [], _ => none
  | b :: bs, i => if b = false then some i else badLeft bs (i + 1)
/-- what well.Well says -/
def wellG (g : List Rl) : Int × Int :=
  if checkG g ≠ 0 then (0, checkG g) else match badLoop g (factsG g) g 0 with
    | some i => (i, 9)
    | none => match badLeft (knownG g (factsG g)) 0 with
      | some i => (i, 8)
      | none => (0, 0)

/-! a right grammar -/
theorem looks_fit : ∀ (ks : List Ex) (n deep : Nat), (looks ks n deep).1 = 0 → ∀ e ∈ ks, ∃ n' d', (lookN e n' d').1 = 0
  | [], _, _, _ => fun e he => by cases he
  | e :: es, n, deep, h => fun e' he' => by
    unfold looks at h
    split at h
    · rename_i h0
      rcases List.mem_cons.1 he' with rfl | he'
      · exact ⟨_, _, h0⟩
      · exact looks_fit es _ _ h e' he'
    · rename_i h0
      exact absurd h h0
theorem look_fit {k a b c d : Int} {t : ByteArray} {ks : List Ex} {n deep : Nat} (h : (lookN (.mk k a b c d t ks) n deep).1 = 0) : fitB k a b c d t.data.toList ks.length = true ∧ ∀ e ∈ ks, ∃ n' d', (lookN e n' d').1 = 0 := by
  unfold lookN at h
  split at h
  · simp at h
  split at h
  · simp at h
  split at h
  · simp at h
  · rename_i h3
    exact ⟨by simpa using h3, looks_fit _ _ _ h⟩
theorem refStep_keeps {acc : List ByteArray} {p : Int × ByteArray} {s : ByteArray} (h : s ∈ acc) : s ∈ refStep acc p := by
  unfold refStep
  split
  · simp [h]
  · exact h
theorem mem_refsL : ∀ (l : List (Int × ByteArray)) (acc : List ByteArray) (s : ByteArray), s ∈ l.foldl refStep acc ↔ s ∈ acc ∨ ((4 : Int), s) ∈ l
  | [], acc, s => by simp
  | p :: l, acc, s => by
    rw [List.foldl_cons, mem_refsL l _ s]
    constructor
    · rintro (h | h)
      · unfold refStep at h
        split at h
        · rename_i hp
          rcases List.mem_append.1 h with h | h
          · exact .inl h
          · simp at h
            refine .inr ?_
            rw [h, ← hp.1]
            simp
        · exact .inl h
      · exact .inr (List.mem_cons_of_mem _ h)
    · rintro (h | h)
      · exact .inl (refStep_keeps h)
      · rcases List.mem_cons.1 h with h | h
        · refine .inl ?_
          rw [← h]
          unfold refStep
          by_cases hs : s ∈ acc
          · rw [if_neg (by simp [hs])]; exact hs
          · rw [if_pos ⟨rfl, hs⟩]; simp
        · exact .inr h
theorem mem_refsE (e : Ex) (s : ByteArray) : s ∈ refsE e ↔ ((4 : Int), s) ∈ preE e := by
  unfold refsE refsL
  rw [mem_refsL]
  simp
theorem mem_preEs {p : Int × ByteArray} : ∀ {ks : List Ex} {e : Ex}, e ∈ ks → p ∈ preE e → p ∈ preEs ks
  | [], e, he, _ => by cases he
  | x :: xs, e, he, hp => by
    rw [preEs]
    rcases List.mem_cons.1 he with rfl | he
    · exact List.mem_append_left _ hp
    · exact List.mem_append_right _ (mem_preEs he hp)
theorem rt_of {g : List Rl} (e : Ex) : (∃ n d, (lookN e n d).1 = 0) → (∀ s, ((4 : Int), s) ∈ preE e → 0 ≤ fnd g s.data.toList) → Rt g e := by
  refine Ex.ind (P := fun e => (∃ n d, (lookN e n d).1 = 0) → (∀ s, ((4 : Int), s) ∈ preE e → 0 ≤ fnd g s.data.toList) → Rt g e) ?_ e
  rintro k a b c d t ks ih ⟨n, dd, h⟩ hr
  obtain ⟨h1, h2⟩ := look_fit h
  refine .mk k a b c d t ks h1 (fun hk => hr t ?_) fun e he => ih e he (h2 e he) fun s hs => hr s ?_
  · rw [preE, hk]; simp
  · rw [preE]
    exact List.mem_cons_of_mem _ (mem_preEs he hs)
theorem known1_all {g : List Rl} : ∀ {l : List ByteArray}, known1 g l = true → ∀ s ∈ l, 0 ≤ fnd g s.data.toList
  | [], _ => fun s hs => by cases hs
  | x :: xs, h => fun s hs => by
    unfold known1 at h
    split at h
    · cases h
    · rcases List.mem_cons.1 hs with rfl | hs
      · omega
      · exact known1_all h s hs
theorem chk2_all {g : List Rl} : ∀ {l : List Rl}, chk2 g l = 0 → ∀ r ∈ l, ∀ s ∈ refsC r.2, 0 ≤ fnd g s.data.toList
  | [], _ => fun r hr => by cases hr
  | x :: xs, h => fun r hr => by
    unfold chk2 at h
    split at h
    · simp at h
    · rename_i hk
      rcases List.mem_cons.1 hr with rfl | hr
      · exact known1_all (by simpa using hk)
      · exact chk2_all h r hr
theorem chk1_all {g : List Rl} : ∀ {l : List Rl} {i all : Nat}, (chk1 g l i all).1 = 0 → (∀ r ∈ l, nameB r.1.data.toList = true ∧ checkE r.2 = 0) ∧ (∀ (j : Nat) (r : Rl), l[j]? = some r → fnd g r.1.data.toList = ((i + j : Nat) : Int)) ∧ (chk1 g l i all).2 = all + (l.map fun r => nodes r.2).sum
  | [], i, all, _ => ⟨fun r hr => (by cases hr), fun j r h => (by simp at h), by simp [chk1]⟩
  | x :: xs, i, all, h => by
    unfold chk1 at h ⊢
    split at h
    · simp at h
    rename_i h1
    split at h
    · simp at h
    rename_i h2
    split at h
    · rename_i h3; exact absurd h h3
    rename_i h3
    obtain ⟨a1, a2, a3⟩ := chk1_all h
    rw [if_neg h1, if_neg h2, if_neg h3]
    refine ⟨fun r hr => ?_, fun j r hj => ?_, by rw [a3]; simp; omega⟩
    · rcases List.mem_cons.1 hr with rfl | hr
      · exact ⟨by simpa using h1, by simpa using h3⟩
      · exact a1 r hr
    · cases j with
      | zero =>
        simp at hj
        subst hj
        simpa using h2
      | succ j =>
        rw [a2 j r (by simpa using hj)]
        omega
/-- what a right grammar is -/
structure RightG (g : List Rl) : Prop where
  pos : 0 < g.length
  ten : g.length ≤ 10
  nodes : (g.map fun r => nodes r.2).sum ≤ 120
  named : ∀ r ∈ g, nameB r.1.data.toList = true
  once : ∀ (j : Nat) (r : Rl), g[j]? = some r → fnd g r.1.data.toList = (j : Int)
  body : ∀ r ∈ g, checkE r.2 = 0
  rt : ∀ r ∈ g, Rt g r.2
theorem right_of {g : List Rl} (h : checkG g = 0) : RightG g := by
  unfold checkG at h
  split at h
  · simp at h
  rename_i h0
  split at h
  · simp at h
  rename_i h10
  split at h
  · rename_i h1; exact absurd h h1
  rename_i h1
  split at h
  · simp at h
  rename_i h120
  obtain ⟨a1, a2, a3⟩ := chk1_all (by simpa using h1)
  rw [a3] at h120
  refine ⟨by omega, by omega, by omega, fun r hr => (a1 r hr).1, fun j r hj => by rw [a2 j r hj, Nat.zero_add], fun r hr => (a1 r hr).2, fun r hr => ?_⟩
  have hc := (a1 r hr).2
  refine rt_of r.2 ⟨0, 1, hc⟩ fun s hs => chk2_all h r hr s ?_
  unfold refsC
  rw [if_pos hc]
  exact (mem_refsE _ _).2 hs
theorem fits_of {g : List Rl} (h : RightG g) : Fits g (factsG g) :=
  ⟨facts_len g, fun i r hr => by rw [facts_fix g i (getElem?_lt hr)]; unfold nxF; rw [hr], h.rt⟩

/-! it comes to an end -/
def EndsAt (g : List Rl) (s : List UInt8) (e : Ex) (p : Nat) : Prop := ∃ n o, ev g s n e p = some o
def EndsR (g : List Rl) (s : List UInt8) (e : Ex) (p : Nat) : Prop := ∃ n o, evR g s n e p = some o
structure GoodE (g : List Rl) (fs : List Fa) (e : Ex) : Prop where
  rt : Rt g e
  noloop : loopsE g fs e = false
theorem loopsEs_mem {g : List Rl} {fs : List Fa} : ∀ {ks : List Ex}, loopsEs g fs ks = false → ∀ e ∈ ks, loopsE g fs e = false
  | [], _ => fun e he => by cases he
  | x :: xs, h => fun e he => by
    rw [loopsEs, Bool.or_eq_false_iff] at h
    rcases List.mem_cons.1 he with rfl | he
    · exact h.1
    · exact loopsEs_mem h.2 e he
theorem GoodE.kids {g : List Rl} {fs : List Fa} {k a b c d : Int} {t : ByteArray} {ks : List Ex} (h : GoodE g fs (.mk k a b c d t ks)) : (∀ e ∈ ks, GoodE g fs e) ∧ fitB k a b c d t.data.toList ks.length = true ∧ (k = 4 → 0 ≤ fnd g t.data.toList) ∧
    (k = 7 ∨ k = 8 → ∀ e, ks = [e] → (ofE g fs e).e = false) := by
  have hl := h.noloop
  rw [loopsE, Bool.or_eq_false_iff] at hl
  cases h.rt with
  | mk _ _ _ _ _ _ _ hfit hname hkids =>
  refine ⟨fun e he => ⟨hkids e he, loopsEs_mem hl.2 e he⟩, hfit, hname, fun hk e he => ?_⟩
  subst he
  have := hl.1
  rw [ofEs, ofEs, kid0] at this
  rcases hk with rfl | rfl <;> simpa using this

section
variable {g : List Rl} {s : List UInt8} {fs : List Fa}
theorem ends_R (H : Fits g fs) {e : Ex} {p : Nat} (hp : p ≤ s.length) (hg : GoodE g fs e) (hne : (ofE g fs e).e = false) (h : EndsAt g s e p) (hout : ∀ q, p < q → q ≤ s.length → EndsR g s e q) : EndsR g s e p := by
  obtain ⟨n, o, he⟩ := h
  cases o with
  | none => exact ⟨n + 1, some p, by rw [evR_s, he]⟩
  | some to =>
    have ht := (told H n).1 e p _ hg.rt hp he
    have hgt : p < to := by
      rcases Nat.lt_or_ge p to with h | h
      · exact h
      · have := ht.2.2.1 (by have := ht.1; omega)
        rw [hne] at this
        cases this
    obtain ⟨m, o', hr⟩ := hout to hgt ht.2.1
    exact ⟨max n m + 1, o', by rw [evR_s, ev_le he (Nat.le_max_left _ _)]; exact evR_le hr (Nat.le_max_right _ _)⟩
theorem ends_S_gt (H : Fits g fs) {p : Nat} (hout : ∀ q, p < q → q ≤ s.length → ∀ e, GoodE g fs e → EndsAt g s e q) : ∀ (es : List Ex), (∀ e ∈ es, GoodE g fs e) → ∀ q, p < q → q ≤ s.length → ∃ n o, evS g s n es q = some o
  | [], _, q, _, _ => ⟨1, some q, by rw [evS_nil]⟩
  | e :: es, hes, q, h1, h2 => by
    obtain ⟨n, o, he⟩ := hout q h1 h2 e (hes e (by simp))
    cases o with
    | none => exact ⟨n + 1, none, by rw [evS_cons, he]⟩
    | some to =>
      have ht := (told H n).1 e q _ (hes e (by simp)).rt h2 he
      obtain ⟨m, o', hm⟩ := ends_S_gt H hout es (fun e he => hes e (by simp [he])) to (by have := ht.1; omega) ht.2.1
      exact ⟨max n m + 1, o', by rw [evS_cons, ev_le he (Nat.le_max_left _ _)]; exact evS_le hm (Nat.le_max_right _ _)⟩

theorem ends_step (H : Fits g fs) {p : Nat} (hp : p ≤ s.length) (hout : ∀ q, p < q → q ≤ s.length → ∀ e, GoodE g fs e → EndsAt g s e q ∧ ((ofE g fs e).e = false → EndsR g s e q))
    {kn : List Bool} (hkn : ∀ (i : Nat) (r : Rl), kn[i]? = some true → g[i]? = some r → EndsAt g s r.2 p) (e : Ex) : GoodE g fs e → soundE g fs kn e = true → EndsAt g s e p := by
  refine Ex.ind (P := fun e => GoodE g fs e → soundE g fs kn e = true → EndsAt g s e p) ?_ e
  intro k a b c d t ks ih hg hs
  obtain ⟨hkids, hfit, hname, hloop⟩ := hg.kids
  have hfc := fit_cases hfit
  rw [soundE] at hs
  by_cases k1 : k = 1
  · exact ⟨1, some p, by rw [ev_s, if_pos k1]⟩
  by_cases k2 : k = 2
  · exact ⟨1, _, by rw [ev_s, if_neg k1, if_pos k2]⟩
  by_cases k3 : k = 3
  · exact ⟨1, _, by rw [ev_s, if_neg k1, if_neg k2, if_pos k3]⟩
  by_cases k4 : k = 4
  · rw [if_pos k4] at hs
    obtain ⟨r, hr, _⟩ := fnd_at (hname k4)
    have hkt : kn[(fnd g t.data.toList).toNat]? = some true := by
      rw [List.getD_eq_getElem?_getD] at hs
      cases hh : kn[(fnd g t.data.toList).toNat]? with
      | none => rw [hh] at hs; cases hs
      | some b => rw [hh] at hs; simp at hs; rw [hs]
    obtain ⟨n, o, h⟩ := hkn _ r hkt hr
    exact ⟨n + 1, o, by rw [ev_s, if_neg k1, if_neg k2, if_neg k3, if_pos k4, hr]; exact h⟩
  rw [if_neg k4] at hs
  by_cases k5 : k = 5
  · rw [if_pos k5] at hs
    have : ∀ es : List Ex, (∀ e ∈ es, e ∈ ks) → soundS g fs kn es = true → ∃ n o, evS g s n es p = some o := by
      intro es
      induction es with
      | nil => intro _ _; exact ⟨1, some p, by rw [evS_nil]⟩
      | cons e es ihe =>
        intro hm hse
        rw [soundS] at hse
        split at hse
        · cases hse
        rename_i hse1
        obtain ⟨n, o, he⟩ := ih e (hm e (by simp)) (hkids e (hm e (by simp))) (by simpa using hse1)
        cases o with
        | none => exact ⟨n + 1, none, by rw [evS_cons, he]⟩
        | some to =>
          have ht := (told H n).1 e p _ (hkids e (hm e (by simp))).rt hp he
          have hrest : ∃ m o', evS g s m es to = some o' := by
            by_cases hpt : to = p
            · subst hpt
              have he' := ht.2.2.1 rfl
              rw [he', if_neg (by decide)] at hse
              exact ihe (fun e he => hm e (by simp [he])) hse
            · exact ends_S_gt H (fun q h1 h2 e he => (hout q h1 h2 e he).1) es (fun e he => hkids e (hm e (by simp [he]))) to (by have := ht.1; omega) ht.2.1
          obtain ⟨m, o', hm'⟩ := hrest
          exact ⟨max n m + 1, o', by rw [evS_cons, ev_le he (Nat.le_max_left _ _)]; exact evS_le hm' (Nat.le_max_right _ _)⟩
    obtain ⟨n, o, h⟩ := this ks (fun e he => he) hs
    exact ⟨n + 1, o, by rw [ev_s, if_neg k1, if_neg k2, if_neg k3, if_neg k4, if_pos k5]; exact h⟩
  rw [if_neg k5] at hs
  have hall : ∀ es : List Ex, soundA g fs kn es = true → ∀ e ∈ es, soundE g fs kn e = true := by
    intro es
    induction es with
    | nil => intro _ e he; cases he
    | cons e es ihe =>
      intro hse e' he'
      rw [soundA] at hse
      split at hse
      · cases hse
      rename_i hse1
      rcases List.mem_cons.1 he' with rfl | he'
      · simpa using hse1
      · exact ihe hse e' he'
  have hends : ∀ e ∈ ks, EndsAt g s e p := fun e he => ih e he (hkids e he) (hall ks hs e he)
  by_cases k6 : k = 6
  · have : ∀ es : List Ex, (∀ e ∈ es, e ∈ ks) → ∃ n o, evA g s n es p = some o := by
      intro es
      induction es with
      | nil => intro _; exact ⟨1, none, by rw [evA_nil]⟩
      | cons e es ihe =>
        intro hm
        obtain ⟨n, o, he⟩ := hends e (hm e (by simp))
        cases o with
        | some to => exact ⟨n + 1, some to, by rw [evA_cons, he]⟩
        | none =>
          obtain ⟨m, o', hm'⟩ := ihe (fun e he => hm e (by simp [he]))
          exact ⟨max n m + 1, o', by rw [evA_cons, ev_le he (Nat.le_max_left _ _)]; exact evA_le hm' (Nat.le_max_right _ _)⟩
    obtain ⟨n, o, h⟩ := this ks (fun e he => he)
    exact ⟨n + 1, o, by rw [ev_s, if_neg k1, if_neg k2, if_neg k3, if_neg k4, if_neg k5, if_pos k6]; exact h⟩
  have h7 : 7 ≤ k ∧ k ≤ 11 ∧ ks.length = 1 := by omega
  match ks, h7.2.2, hends, hkids, hloop with
  | [e0], _, hends, hkids, hloop =>
    obtain ⟨n, o, he⟩ := hends e0 (by simp)
    have hg0 := hkids e0 (by simp)
    have key : ∃ m o', evK g s m k e0 p = some o' := by
      by_cases k7 : k = 7
      · have hne := hloop (.inl k7) e0 rfl
        obtain ⟨m, o', hr⟩ := ends_R H hp hg0 hne ⟨n, o, he⟩ (fun q h1 h2 => (hout q h1 h2 e0 hg0).2 hne)
        exact ⟨m + 1, o', by rw [evK_s, if_pos k7]; exact hr⟩
      cases o with
      | none => exact ⟨n + 1, _, by rw [evK_s, if_neg k7, he]⟩
      | some to =>
        by_cases k8 : k = 8
        · have hne := hloop (.inr k8) e0 rfl
          have ht := (told H n).1 e0 p _ hg0.rt hp he
          have hgt : p < to := by
            rcases Nat.lt_or_ge p to with h | h
            · exact h
            · have := ht.2.2.1 (by have := ht.1; omega)
              rw [hne] at this
              cases this
          obtain ⟨m, o', hr⟩ := (hout to hgt ht.2.1 e0 hg0).2 hne
          exact ⟨max n m + 1, o', by rw [evK_s, if_neg k7, ev_le he (Nat.le_max_left _ _)]; simp only; rw [if_pos k8]; exact evR_le hr (Nat.le_max_right _ _)⟩
        · refine ⟨n + 1, if k = 9 then some to else if k = 10 then some p else none, ?_⟩
          rw [evK_s, if_neg k7, he]
          simp only
          rw [if_neg k8]
          split
          · rfl
          · split <;> rfl
    obtain ⟨m, o', hm⟩ := key
    exact ⟨m + 1, o', by rw [ev_s, if_neg k1, if_neg k2, if_neg k3, if_neg k4, if_neg k5, if_neg k6]; exact hm⟩

theorem sound_true {kn : List Bool} (hkn : ∀ i, i < g.length → kn[i]? = some true) (e : Ex) : Rt g e → soundE g fs kn e = true := by
  refine Ex.ind (P := fun e => Rt g e → soundE g fs kn e = true) ?_ e
  intro k a b c d t ks ih hR
  cases hR with
  | mk _ _ _ _ _ _ _ hfit hname hkids =>
  rw [soundE]
  by_cases k4 : k = 4
  · rw [if_pos k4]
    obtain ⟨r, hr, _⟩ := fnd_at (hname k4)
    rw [List.getD_eq_getElem?_getD, hkn _ (getElem?_lt hr)]
    rfl
  rw [if_neg k4]
  by_cases k5 : k = 5
  · rw [if_pos k5]
    have : ∀ es : List Ex, (∀ e ∈ es, e ∈ ks) → soundS g fs kn es = true := by
      intro es
      induction es with
      | nil => intro _; rw [soundS]
      | cons e es ihe =>
        intro hm
        rw [soundS, ih e (hm e (by simp)) (hkids e (hm e (by simp))), if_neg (by decide)]
        split
        · rfl
        · exact ihe fun e he => hm e (by simp [he])
    exact this ks fun e he => he
  rw [if_neg k5]
  have : ∀ es : List Ex, (∀ e ∈ es, e ∈ ks) → soundA g fs kn es = true := by
    intro es
    induction es with
    | nil => intro _; rw [soundA]
    | cons e es ihe =>
      intro hm
      rw [soundA, ih e (hm e (by simp)) (hkids e (hm e (by simp))), if_neg (by decide)]
      exact ihe fun e he => hm e (by simp [he])
  exact this ks fun e he => he

theorem badLoop_none : ∀ {l : List Rl} {i : Nat}, badLoop g fs l i = none → ∀ r ∈ l, loopsE g fs r.2 = false
  | [], _, _ => fun r hr => by cases hr
  | x :: xs, i, h => fun r hr => by
    unfold badLoop at h
    split at h
    · cases h
    · rename_i hx
      rcases List.mem_cons.1 hr with rfl | hr
      · simpa using hx
      · exact badLoop_none h r hr
theorem badLeft_none : ∀ {l : List Bool} {i : Nat}, badLeft l i = none → ∀ (j : Nat), j < l.length → l[j]? = some true
  | [], _, _ => fun j hj => by simp at hj
  | x :: xs, i, h => fun j hj => by
    unfold badLeft at h
    split at h
    · cases h
    · rename_i hx
      cases j with
      | zero => simp; simpa using hx
      | succ j => simp; have := badLeft_none h j (by simpa using hj); exact this
/-- a grammar that is well -/
structure WellG (g : List Rl) : Prop where
  right : RightG g
  noloop : ∀ r ∈ g, loopsE g (factsG g) r.2 = false
  known : ∀ i, i < g.length → (knownG g (factsG g))[i]? = some true
theorem known_len : (knownG g fs).length = g.length := by
  unfold knownG
  rw [(grow_keeps (nx := nxB g fs) (P := fun _ => True) (fun _ _ _ _ _ => trivial) _ _ trivial).2]
  simp
theorem well_of (h : (wellG g).2 = 0) : WellG g := by
  unfold wellG at h
  split at h
  · rename_i hc; exact absurd h hc
  rename_i hc
  split at h
  · simp at h
  rename_i hl
  split at h
  · simp at h
  rename_i hk
  exact ⟨right_of (by simpa using hc), badLoop_none hl, fun i hi => badLeft_none hk i (by rw [known_len]; exact hi)⟩

theorem ends_all (W : WellG g) : ∀ (m p : Nat), s.length - p = m → p ≤ s.length → ∀ e, GoodE g (factsG g) e → EndsAt g s e p ∧ ((ofE g (factsG g) e).e = false → EndsR g s e p) := by
  intro m
  induction m using Nat.strongRecOn with
  | _ m ih =>
    intro p hm hp
    have H := fits_of W.right
    have hout : ∀ q, p < q → q ≤ s.length → ∀ e, GoodE g (factsG g) e → EndsAt g s e q ∧ ((ofE g (factsG g) e).e = false → EndsR g s e q) := fun q h1 h2 => ih (s.length - q) (by omega) q rfl h2
    have hrules : ∀ (i : Nat) (r : Rl), (knownG g (factsG g))[i]? = some true → g[i]? = some r → EndsAt g s r.2 p := by
      refine (grow_keeps (nx := nxB g (factsG g)) (P := fun kn => kn.length = g.length ∧ ∀ (i : Nat) (r : Rl), kn[i]? = some true → g[i]? = some r → EndsAt g s r.2 p) (fun kn i h hi _ => ⟨by simp; exact h.1, fun j r hj hr => ?_⟩) _ _ ⟨by simp, fun i r hi _ => ?_⟩).1.2
      · by_cases hij : i = j
        · subst hij
          rw [List.getElem?_set_self hi] at hj
          unfold nxB at hj
          rw [hr] at hj
          injection hj with hj
          have hmem := List.mem_of_getElem? hr
          exact ends_step H hp hout h.2 r.2 ⟨W.right.rt r hmem, W.noloop r hmem⟩ hj
        · rw [List.getElem?_set_ne hij] at hj
          exact h.2 j r hj hr
      · rw [List.getElem?_replicate] at hi
        split at hi
        · injection hi with hi; cases hi
        · cases hi
    intro e he
    have h1 := ends_step H hp hout hrules e he (sound_true W.known e he.rt)
    exact ⟨h1, fun hne => ends_R H hp he hne h1 fun q hq1 hq2 => (hout q hq1 hq2 e he).2 hne⟩
theorem ends (W : WellG g) {p : Nat} (hp : p ≤ s.length) {e : Ex} (he : GoodE g (factsG g) e) : EndsAt g s e p := (ends_all W _ p rfl hp e he).1
theorem WellG.good (W : WellG g) {r : Rl} (hr : r ∈ g) : GoodE g (factsG g) r.2 := ⟨W.right.rt r hr, W.noloop r hr⟩
end
end Go.Proofs.YtndhbdbfjkmloaaGreatDoor
namespace Go.Proofs.YtndhbdbfjkmloaaGreatDoor
open Go.RowKit

structure S4 where
  a : Int
  b : Int
  c : Int
  d : Int
def S4.val (s : S4) : Value := .agg #[.int .u64 s.a, .int .u64 s.b, .int .u64 s.c, .int .u64 s.d]
def S4.map2 (f : Int → Int → Int) (s t : S4) : S4 := ⟨f s.a t.a, f s.b t.b, f s.c t.c, f s.d t.d⟩

def orU (x y : Int) : Int := bits .or .u64 x y
def andU (x y : Int) : Int := bits .and .u64 x y
/-- the closure F computes f, and leaves the world alone -/
def Computes (F : Nat) (f : Int → Int → Int) : Prop := ∀ (x y : Int) (w : World), Calls Tryz.prog F #[.int .u64 x, .int .u64 y] w fun e w' => e = .returned (.int .u64 (f x y)) ∧ w = w'

theorem join_fn : Computes 110 orU := by
  intro x y w
  go_enter Tryz.func110, Tryz.ntmps110
  go_wp2
  go_ret
  exact ⟨rfl, rfl⟩

/-- the words of a set behind k rounds -/
def stage (f : Int → Int → Int) (s t : S4) (k : Nat) : Array Value :=
  #[.int .u64 (if 0 < k then f s.a t.a else s.a), .int .u64 (if 1 < k then f s.b t.b else s.b), .int .u64 (if 2 < k then f s.c t.c else s.c), .int .u64 (if 3 < k then f s.d t.d else s.d)]
theorem stage_step (f : Int → Int → Int) (s t : S4) (k : Nat) (hk : k < 4) :
    ∃ x y, (stage f s t k)[k]? = some (.int .u64 x) ∧ (stage f t t 0)[k]? = some (.int .u64 y) ∧ (stage f s t k).setIfInBounds k (.int .u64 (f x y)) = stage f s t (k + 1) := by
  rcases (by omega : k = 0 ∨ k = 1 ∨ k = 2 ∨ k = 3) with rfl | rfl | rfl | rfl
  · exact ⟨s.a, t.a, rfl, rfl, rfl⟩
  · exact ⟨s.b, t.b, rfl, rfl, rfl⟩
  · exact ⟨s.c, t.c, rfl, rfl, rfl⟩
  · exact ⟨s.d, t.d, rfl, rfl, rfl⟩

theorem both_join (s t : S4) (w : World) :
    Calls Tryz.prog 109 #[s.val, t.val, .func (.func 110) #[] #[]] w fun e w' => e = .returned (S4.map2 orU s t).val ∧ Below w.heap.size w w' := by
  unfold S4.val
  go_enter Tryz.func109, Tryz.ntmps109
  go_wp2
  go_loopw [7, 8] (fun _ i wr => ∃ k : Nat, k ≤ 4 ∧ i = .int .i64 k ∧ Blk wr w.heap.size 63 (stage orU s t k) ∧ Blk wr (w.heap.size + 1) 63 (stage orU t t 0) ∧ Blk wr (w.heap.size + 1 + 1) 63 #[.int .u64 0, .int .u64 0, .int .u64 0, .int .u64 0] ∧ Below w.heap.size w wr) (fun _ i _ => 4 - (intOf i).toNat)
  case atStart => exact ⟨0, by omega, rfl, ((blk_at rfl).alloc _).alloc _, (blk_at (by simp)).alloc _, blk_at (by simp), (by repeat (first | exact Below.refl _ _ | assumption | refine Below.drew ?_ | refine below_drewN ?_ _ | refine Below.alloc ?_ (by first | omega | (simp; omega) | simp) _ | refine Below.setCell ?_ (by first | omega | (simp; omega) | simp) _))⟩
  case round =>
    obtain ⟨k, hk, rfl, hs, ht, hz, hbw⟩ := hrel
    by_cases hk4 : k < 4
    · obtain ⟨x, y, hx, hy, hn⟩ := stage_step orU s t k hk4
      have hcx := hs.cell k
      have hcy := ht.cell k
      have hfz := hs.frozen k
      rw [hx] at hcx
      rw [hy] at hcy
      have HN := Lib.hid hn
      clear hx hy hn
      have hk0 : (0 : Int) ≤ (k : Int) := by omega
      have hk1 : (k : Int) < 4 := by omega
      go_wp2_with fail
      go_region_with (go_at_call 110; refine (join_fn x y _).mono ?_; rintro e w' ⟨rfl, rfl⟩)
      all_goals
        go_wp2
        go_roundw
        case rel =>
          refine ⟨k + 1, by omega, by go_num, ?_, ht.far (by simp) _, hz.far (by simp; omega) _, (hbw.drew).setCell (Nat.le_refl _) _⟩
          have := (hs.drew).set_ k (.int .u64 (orU x y))
          rw [HN.out] at this
          exact this
        case measure => simp [intOf]; omega
    · obtain rfl : k = 4 := by omega
      have h0 : wr.cell? ⟨w.heap.size, 0, none⟩ = some (.int .u64 (orU s.a t.a)) := hs.cell 0
      have h1 : wr.cell? ⟨w.heap.size, 1, none⟩ = some (.int .u64 (orU s.b t.b)) := hs.cell 1
      have h2 : wr.cell? ⟨w.heap.size, 2, none⟩ = some (.int .u64 (orU s.c t.c)) := hs.cell 2
      have h3 : wr.cell? ⟨w.heap.size, 3, none⟩ = some (.int .u64 (orU s.d t.d)) := hs.cell 3
      have z0 : wr.cell? ⟨w.heap.size + 1 + 1, 0, none⟩ = some (.int .u64 0) := hz.cell 0
      have z1 : wr.cell? ⟨w.heap.size + 1 + 1, 1, none⟩ = some (.int .u64 0) := hz.cell 1
      have z2 : wr.cell? ⟨w.heap.size + 1 + 1, 2, none⟩ = some (.int .u64 0) := hz.cell 2
      have z3 : wr.cell? ⟨w.heap.size + 1 + 1, 3, none⟩ = some (.int .u64 0) := hz.cell 3
      have f0 := hz.frozen 0
      have f1 := hz.frozen 1
      have f2 := hz.frozen 2
      have f3 := hz.frozen 3
      have e0 : (wr.setCell ⟨w.heap.size + 1 + 1, 0, none⟩ (.int .u64 (orU s.a t.a))).cell? ⟨w.heap.size + 1 + 1, 0, none⟩ = some (.int .u64 (orU s.a t.a)) := (hz.set_ 0 _).cell 0
      have e1 : ((wr.setCell ⟨w.heap.size + 1 + 1, 0, none⟩ (.int .u64 (orU s.a t.a))).setCell ⟨w.heap.size + 1 + 1, 1, none⟩ (.int .u64 (orU s.b t.b))).cell? ⟨w.heap.size + 1 + 1, 1, none⟩ = some (.int .u64 (orU s.b t.b)) := ((hz.set_ 0 _).set_ 1 _).cell 1
      have e2 : (((wr.setCell ⟨w.heap.size + 1 + 1, 0, none⟩ (.int .u64 (orU s.a t.a))).setCell ⟨w.heap.size + 1 + 1, 1, none⟩ (.int .u64 (orU s.b t.b))).setCell ⟨w.heap.size + 1 + 1, 2, none⟩ (.int .u64 (orU s.c t.c))).cell? ⟨w.heap.size + 1 + 1, 2, none⟩ = some (.int .u64 (orU s.c t.c)) := (((hz.set_ 0 _).set_ 1 _).set_ 2 _).cell 2
      have e3 : ((((wr.setCell ⟨w.heap.size + 1 + 1, 0, none⟩ (.int .u64 (orU s.a t.a))).setCell ⟨w.heap.size + 1 + 1, 1, none⟩ (.int .u64 (orU s.b t.b))).setCell ⟨w.heap.size + 1 + 1, 2, none⟩ (.int .u64 (orU s.c t.c))).setCell ⟨w.heap.size + 1 + 1, 3, none⟩ (.int .u64 (orU s.d t.d))).cell? ⟨w.heap.size + 1 + 1, 3, none⟩ = some (.int .u64 (orU s.d t.d)) := ((((hz.set_ 0 _).set_ 1 _).set_ 2 _).set_ 3 _).cell 3
      go_wp2
      exact bodyPost_ret (v := (S4.map2 orU s t).val) (by simp [results, Tryz.results109, go_sem, e0, e1, e2, e3]; rfl) rfl ⟨rfl, (by repeat (first | exact Below.refl _ _ | assumption | refine Below.drew ?_ | refine below_drewN ?_ _ | refine Below.alloc ?_ (by first | omega | (simp; omega) | simp) _ | refine Below.setCell ?_ (by first | omega | (simp; omega) | simp) _))⟩


end Go.Proofs.YtndhbdbfjkmloaaGreatDoor
namespace Go.Proofs.YtndhbdbfjkmloaaGreatDoor
open Go.RowKit

theorem join_any (s t : S4) (w : World) : Calls Tryz.prog 98 #[s.val, t.val] w fun e w' => e = .returned (S4.map2 orU s t).val ∧ Below w.heap.size w w' := by
  have hc := both_join s t
  have HC := Lib.hid hc
  clear hc
  unfold S4.val at HC ⊢
  go_enter Tryz.func98, Tryz.ntmps98
  go_wp2_with fail
  refine (HC.out _).mono ?_
  rintro e w1 ⟨rfl, hb1⟩
  have hz : Blk w1 (w.heap.size + 1 + 1) 63 #[.int .u64 0, .int .u64 0, .int .u64 0, .int .u64 0] := (blk_at (by simp)).below hb1 (by simp)
  have hw1 : Below w.heap.size w w1 := Below.trans (by repeat (first | exact Below.refl _ _ | assumption | refine Below.drew ?_ | refine below_drewN ?_ _ | refine Below.alloc ?_ (by first | omega | (simp; omega) | simp) _ | refine Below.setCell ?_ (by first | omega | (simp; omega) | simp) _)) (hb1.mono (by first | omega | (simp; omega) | simp))
  have hz1 := hw1.size
  clear hb1
  have z0 : w1.cell? ⟨w.heap.size + 1 + 1, 0, none⟩ = some (.int .u64 0) := hz.cell 0
  have z1 : w1.cell? ⟨w.heap.size + 1 + 1, 1, none⟩ = some (.int .u64 0) := hz.cell 1
  have z2 : w1.cell? ⟨w.heap.size + 1 + 1, 2, none⟩ = some (.int .u64 0) := hz.cell 2
  have z3 : w1.cell? ⟨w.heap.size + 1 + 1, 3, none⟩ = some (.int .u64 0) := hz.cell 3
  have f0 := hz.frozen 0
  have f1 := hz.frozen 1
  have f2 := hz.frozen 2
  have f3 := hz.frozen 3
  have e0 : (w1.setCell ⟨w.heap.size + 1 + 1, 0, none⟩ (.int .u64 (orU s.a t.a))).cell? ⟨w.heap.size + 1 + 1, 0, none⟩ = some (.int .u64 (orU s.a t.a)) := (hz.set_ 0 _).cell 0
  have e1 : ((w1.setCell ⟨w.heap.size + 1 + 1, 0, none⟩ (.int .u64 (orU s.a t.a))).setCell ⟨w.heap.size + 1 + 1, 1, none⟩ (.int .u64 (orU s.b t.b))).cell? ⟨w.heap.size + 1 + 1, 1, none⟩ = some (.int .u64 (orU s.b t.b)) := ((hz.set_ 0 _).set_ 1 _).cell 1
  have e2 : (((w1.setCell ⟨w.heap.size + 1 + 1, 0, none⟩ (.int .u64 (orU s.a t.a))).setCell ⟨w.heap.size + 1 + 1, 1, none⟩ (.int .u64 (orU s.b t.b))).setCell ⟨w.heap.size + 1 + 1, 2, none⟩ (.int .u64 (orU s.c t.c))).cell? ⟨w.heap.size + 1 + 1, 2, none⟩ = some (.int .u64 (orU s.c t.c)) := (((hz.set_ 0 _).set_ 1 _).set_ 2 _).cell 2
  have e3 : ((((w1.setCell ⟨w.heap.size + 1 + 1, 0, none⟩ (.int .u64 (orU s.a t.a))).setCell ⟨w.heap.size + 1 + 1, 1, none⟩ (.int .u64 (orU s.b t.b))).setCell ⟨w.heap.size + 1 + 1, 2, none⟩ (.int .u64 (orU s.c t.c))).setCell ⟨w.heap.size + 1 + 1, 3, none⟩ (.int .u64 (orU s.d t.d))).cell? ⟨w.heap.size + 1 + 1, 3, none⟩ = some (.int .u64 (orU s.d t.d)) := ((((hz.set_ 0 _).set_ 1 _).set_ 2 _).set_ 3 _).cell 3
  unfold S4.map2 at *
  go_wp2
  exact bodyPost_ret (v := .agg #[.int .u64 (orU s.a t.a), .int .u64 (orU s.b t.b), .int .u64 (orU s.c t.c), .int .u64 (orU s.d t.d)]) (by simp [results, Tryz.results98, go_sem, e0, e1, e2, e3]) rfl ⟨rfl, (by repeat (first | exact Below.refl _ _ | assumption | refine Below.drew ?_ | refine below_drewN ?_ _ | refine Below.alloc ?_ (by first | omega | (simp; omega) | simp) _ | refine Below.setCell ?_ (by first | omega | (simp; omega) | simp) _))⟩
end Go.Proofs.YtndhbdbfjkmloaaGreatDoor
