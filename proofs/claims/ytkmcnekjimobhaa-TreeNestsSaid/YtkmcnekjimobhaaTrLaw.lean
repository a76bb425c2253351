/- Events are built to trees: plain. -/
import Derived.Test.YtkmcnekjimobhaaTr2
namespace Go.Proofs.Ytkmcnekjimobhaa

/-- what is open: a rule, where it began, the kids so far (the last one opened comes first) -/
abbrev Fr := Int × Int × List Tr
def bld : List Ev → List Fr → Option Tr
  | [], _ => none
  | (k, r, a) :: es, st =>
    if k = 1 then bld es ((r, a, []) :: st)
    else match st with
      | [] => none
      | (r', f, ks) :: st' =>
        if k = 2 ∧ r' = r then
          match st' with
          | [] => if es = [] then some (.mk r' f a ks) else none
          | (r2, f2, ks2) :: st2 => bld es ((r2, f2, ks2 ++ [.mk r' f a ks]) :: st2)
        else none

/-- a tree's events, and what comes behind -/
def bldT (t : Tr) (es : List Ev) : List Fr → Option Tr
  | [] => if es = [] then some t else none
  | (r, f, ks) :: st => bld es ((r, f, ks ++ [t]) :: st)

theorem bld_open (r a : Int) (es : List Ev) (st : List Fr) : bld ((1, r, a) :: es) st = bld es ((r, a, []) :: st) := by
  rw [bld.eq_def]
  simp
theorem bld_close (r f a : Int) (ks : List Tr) (es : List Ev) (st : List Fr) : bld ((2, r, a) :: es) ((r, f, ks) :: st) = bldT (.mk r f a ks) es st := by
  cases st with
  | nil => simp [bld, bldT]
  | cons x st => obtain ⟨r2, f2, ks2⟩ := x; simp [bld, bldT]
theorem bld_all : ∀ (ks : List Tr), (∀ t ∈ ks, ∀ es st, bld (evs t ++ es) st = bldT t es st) → ∀ (r f : Int) (k0 : List Tr) (es : List Ev) (st : List Fr), bld (evsAll ks ++ es) ((r, f, k0) :: st) = bld es ((r, f, k0 ++ ks) :: st)
  | [], _, r, f, k0, es, st => by simp [evsAll]
  | t :: ks, h, r, f, k0, es, st => by
    rw [evsAll, List.append_assoc, h t (by simp)]
    show bld _ ((r, f, k0 ++ [t]) :: st) = _
    rw [bld_all ks (fun t' ht => h t' (by simp [ht])), List.append_assoc]
    rfl
theorem bld_evs (t : Tr) : ∀ es st, bld (evs t ++ es) st = bldT t es st := by
  refine Tr.ind (P := fun t => ∀ es st, bld (evs t ++ es) st = bldT t es st) ?_ t
  intro r f u ks ih es st
  rw [evs]
  show bld ((1, r, f) :: ((evsAll ks ++ [(2, r, u)]) ++ es)) st = _
  rw [bld_open, List.append_assoc, bld_all ks ih]
  exact bld_close r f u ks es st
theorem bld_back (t : Tr) : bld (evs t) [] = some t := by
  have := bld_evs t [] []
  rw [List.append_nil] at this
  rw [this]
  rfl
theorem bld_more (t : Tr) (es : List Ev) (h : es ≠ []) : bld (evs t ++ es) [] = none := by
  rw [bld_evs]
  show (if es = [] then _ else _) = _
  rw [if_neg h]

/-- the events that what is open stands for -/
def flat : List Fr → List Ev
  | [] => []
  | (r, f, ks) :: st => flat st ++ (1, r, f) :: evsAll ks
theorem bld_sound : ∀ (es : List Ev) (st : List Fr) (t : Tr), bld es st = some t → flat st ++ es = evs t
  | [], st, t, h => by simp [bld] at h
  | (k, r, a) :: es, st, t, h => by
    rw [bld.eq_def] at h
    dsimp only at h
    split at h
    · rename_i hk
      have := bld_sound es _ t h
      rw [← this, hk]
      simp [flat, evsAll]
    · split at h
      · cases h
      · rename_i r' f ks st'
        split at h
        · rename_i hk
          obtain ⟨rfl, rfl⟩ := hk
          split at h
          · split at h
            · rename_i he
              injection h with h
              subst he
              rw [← h, evs]
              simp [flat]
            · cases h
          · rename_i r2 f2 ks2 st2
            have := bld_sound es _ t h
            rw [← this]
            simp only [flat, evsAll_snoc, evs]
            simp
        · cases h
theorem evs_inj {t u : Tr} (h : evs t = evs u) : t = u := by
  have h1 := bld_back t
  have h2 := bld_back u
  rw [h] at h1
  rw [h1] at h2
  injection h2
end Go.Proofs.Ytkmcnekjimobhaa
