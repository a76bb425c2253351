/- Cases in memory; book.fit, book.Check. -/
import Derived.Test.YtndhbdbfjkmloaaDoorGrM
namespace Go.Proofs.YtndhbdbfjkmloaaDoor
open Go.RowKit

/-- a case: its kind, its number, its text -/
abbrev Cs := Int × Int × ByteArray
def Cs.vals (c : Cs) : List Value := [.int .i64 c.1, .int .i64 c.2.1, .string c.2.2]
def caseC (l : List Cs) : List Value := l.flatMap Cs.vals
theorem caseC_get : ∀ (fs : List Cs) (i j : Nat) (x : Cs), fs[i]? = some x → j < 3 → (caseC fs)[i * 3 + j]? = x.vals[j]?
  | [], i, j, x, h, _ => by simp at h
  | y :: fs, 0, j, x, h, hj => by
    simp at h
    subst h
    have : (y.vals ++ caseC fs)[0 * 3 + j]? = y.vals[j]? := by rw [Nat.zero_mul, Nat.zero_add, List.getElem?_append_left (by simp [Cs.vals]; omega)]
    exact this
  | y :: fs, i + 1, j, x, h, hj => by
    have h1 := caseC_get fs i j x (by simpa using h) hj
    have : (y.vals ++ caseC fs)[(i + 1) * 3 + j]? = x.vals[j]? := by
      rw [List.getElem?_append_right (by simp [Cs.vals]; omega), ← h1]
      congr 1
      simp [Cs.vals]
      omega
    exact this
theorem caseC_len (fs : List Cs) : (caseC fs).length = fs.length * 3 := by
  induction fs with
  | nil => rfl
  | cons x fs ih =>
    show (x.vals ++ caseC fs).length = _
    rw [List.length_append, ih]
    simp [Cs.vals]
    omega
theorem reads_case {w : World} {B n i : Nat} {A : Option Addr} {fs : List Cs} (h : Reads w B 3 A n (caseC fs)) (hi : i < n) :
    ∃ (ad : Addr) (k m : Int) (t : ByteArray), A = some ad ∧ ad.block < B ∧ fs[i]? = some (k, m, t) ∧ w.cell? (ad.add (i * 3)) = some (.int .i64 k) ∧ w.cell? ⟨(ad.add (i * 3)).block, (ad.add (i * 3)).off + 1, none⟩ = some (.int .i64 m) ∧ w.cell? ⟨(ad.add (i * 3)).block, (ad.add (i * 3)).off + 2, none⟩ = some (.string t) := by
  obtain ⟨ad, rfl, hb, hc⟩ := h.lies (by omega)
  have hlen : fs.length = n := by have := h.len; rw [caseC_len] at this; omega
  have hx : fs[i]? = some fs[i] := List.getElem?_eq_getElem (by omega)
  generalize fs[i] = x at hx
  obtain ⟨k, m, t⟩ := x
  have h0 := hc _ _ (caseC_get fs i 0 (k, m, t) hx (by omega))
  have h1 := hc _ _ (caseC_get fs i 1 (k, m, t) hx (by omega))
  have h2 := hc _ _ (caseC_get fs i 2 (k, m, t) hx (by omega))
  refine ⟨ad, k, m, t, rfl, hb, hx, by simpa using h0, ?_, ?_⟩
  · rw [← add_add'] at h1; exact h1
  · rw [← add_add'] at h2; exact h2
/-- may a case be so? -/
def fitC (c : Cs) : Int := if 60 < c.2.2.size then 2 else if c.1 = 1 ∨ c.1 = 2 then (if c.2.1 ≠ 0 then 1 else 0) else if c.1 = 4 then (if c.2.1 < 0 ∨ (c.2.2.size : Int) < c.2.1 then 1 else 0) else 1
def chkC : List Cs → Int
  | [] => 0
  | c :: l => if fitC c ≠ 0 then fitC c else chkC l
def bchkC (l : List Cs) : Int := if 40 < l.length then 2 else chkC l

set_option maxRecDepth 100000 in
set_option maxHeartbeats 4000000 in
theorem fitC_any (k m : Int) (t : ByteArray) (w : World) : Calls Tryd.prog 41 #[.agg #[.int .i64 k, .int .i64 m, .string t]] w fun e w' => e = .returned (.int .i64 (fitC (k, m, t))) ∧ Below w.heap.size w w' := by
  unfold fitC
  simp only
  by_cases h60 : 60 < t.size
  · rw [if_pos h60]
    have h : (60 : Int) < (t.size : Int) := by omega
    go_enter Tryd.func41, Tryd.ntmps41
    go_wp2
    go_ret
    exact ⟨rfl, (by repeat (first | exact Below.refl _ _ | assumption | refine Below.drew ?_ | refine below_drewN ?_ _ | refine Below.alloc ?_ (by first | omega | (simp; omega) | simp) _ | refine Below.setCell ?_ (by first | omega | (simp; omega) | simp) _))⟩
  rw [if_neg h60]
  have h : ((60 : Int) < (t.size : Int)) = False := by simp; omega
  by_cases k12 : k = 1 ∨ k = 2
  · rw [if_pos k12]
    by_cases hm : m = 0
    · rw [if_neg (by simp [hm])]
      subst hm
      rcases k12 with rfl | rfl
      all_goals
        go_enter Tryd.func41, Tryd.ntmps41
        go_wp2
        go_ret
        exact ⟨rfl, (by repeat (first | exact Below.refl _ _ | assumption | refine Below.drew ?_ | refine below_drewN ?_ _ | refine Below.alloc ?_ (by first | omega | (simp; omega) | simp) _ | refine Below.setCell ?_ (by first | omega | (simp; omega) | simp) _))⟩
    · rw [if_pos hm]
      have hb : (m != 0) = true := by rw [bne_iff_ne]; exact hm
      clear hm
      rcases k12 with rfl | rfl
      all_goals
        go_enter Tryd.func41, Tryd.ntmps41
        go_wp2
        go_ret
        exact ⟨rfl, (by repeat (first | exact Below.refl _ _ | assumption | refine Below.drew ?_ | refine below_drewN ?_ _ | refine Below.alloc ?_ (by first | omega | (simp; omega) | simp) _ | refine Below.setCell ?_ (by first | omega | (simp; omega) | simp) _))⟩
  rw [if_neg k12]
  have b1 : (k == 1) = false := by rw [beq_eq_false_iff_ne]; omega
  have b2 : (k == 2) = false := by rw [beq_eq_false_iff_ne]; omega
  by_cases k4 : k = 4
  · rw [if_pos k4]
    subst k4
    clear k12
    by_cases hm : m < 0
    · rw [if_pos (.inl hm)]
      go_enter Tryd.func41, Tryd.ntmps41
      go_wp2
      go_ret
      exact ⟨rfl, (by repeat (first | exact Below.refl _ _ | assumption | refine Below.drew ?_ | refine below_drewN ?_ _ | refine Below.alloc ?_ (by first | omega | (simp; omega) | simp) _ | refine Below.setCell ?_ (by first | omega | (simp; omega) | simp) _))⟩
    · by_cases hs : (t.size : Int) < m
      · rw [if_pos (.inr hs)]
        go_enter Tryd.func41, Tryd.ntmps41
        go_wp2
        go_ret
        exact ⟨rfl, (by repeat (first | exact Below.refl _ _ | assumption | refine Below.drew ?_ | refine below_drewN ?_ _ | refine Below.alloc ?_ (by first | omega | (simp; omega) | simp) _ | refine Below.setCell ?_ (by first | omega | (simp; omega) | simp) _))⟩
      · rw [if_neg (by omega)]
        go_enter Tryd.func41, Tryd.ntmps41
        go_wp2
        go_ret
        exact ⟨rfl, (by repeat (first | exact Below.refl _ _ | assumption | refine Below.drew ?_ | refine below_drewN ?_ _ | refine Below.alloc ?_ (by first | omega | (simp; omega) | simp) _ | refine Below.setCell ?_ (by first | omega | (simp; omega) | simp) _))⟩
  · rw [if_neg k4]
    have b4 : (k == 4) = false := by rw [beq_eq_false_iff_ne]; exact k4
    clear k12 k4
    go_enter Tryd.func41, Tryd.ntmps41
    go_wp2
    go_ret
    exact ⟨rfl, (by repeat (first | exact Below.refl _ _ | assumption | refine Below.drew ?_ | refine below_drewN ?_ _ | refine Below.alloc ?_ (by first | omega | (simp; omega) | simp) _ | refine Below.setCell ?_ (by first | omega | (simp; omega) | simp) _))⟩

set_option maxRecDepth 100000 in
set_option maxHeartbeats 4000000 in
theorem bcheck_any {l : List Cs} {A : Option Addr} {n c : Nat} {w : World} (h : Reads w w.heap.size 3 A n (caseC l)) (hl : l.length = n) : Calls Tryd.prog 21 #[.slice A n c] w fun e w' => e = .returned (.int .i64 (bchkC l)) ∧ Below w.heap.size w w' := by
  have HL := Lib.hid hl
  unfold bchkC
  by_cases h40 : 40 < n
  · rw [if_pos (by omega)]
    have hi : (40 : Int) < (n : Int) := by omega
    clear hl
    go_enter Tryd.func21, Tryd.ntmps21
    go_wp2
    go_ret
    exact ⟨rfl, (by repeat (first | exact Below.refl _ _ | assumption | refine Below.drew ?_ | refine below_drewN ?_ _ | refine Below.alloc ?_ (by first | omega | (simp; omega) | simp) _ | refine Below.setCell ?_ (by first | omega | (simp; omega) | simp) _))⟩
  · rw [if_neg (by omega)]
    have hi : ((40 : Int) < (n : Int)) = False := by simp; omega
    have HX : Hid (chkC (l.drop 0) = chkC l) := rfl
    generalize chkC l = x at HX ⊢
    have hfi := fitC_any
    have HF := Lib.hid hfi
    have HH := Lib.hid h
    clear hl hfi h
    go_enter Tryd.func21, Tryd.ntmps21
    go_wp2
    go_loopw [11] (fun i wr => ∃ j : Nat, j ≤ n ∧ i = .int .i64 j ∧ Hid (chkC (l.drop j) = x) ∧ Below w.heap.size w wr) (fun i _ => n - (intOf i).toNat)
    case atStart => exact ⟨0, by omega, rfl, HX, (by repeat (first | exact Below.refl _ _ | assumption | refine Below.drew ?_ | refine below_drewN ?_ _ | refine Below.alloc ?_ (by first | omega | (simp; omega) | simp) _ | refine Below.setCell ?_ (by first | omega | (simp; omega) | simp) _))⟩
    case round =>
      obtain ⟨j, hj, rfl, HX, hwr⟩ := hrel
      have hzr := hwr.size
      by_cases hjn : j < n
      · obtain ⟨ad, k, m, t, rfl, hab, hg, e0, e1, e2⟩ := reads_case (HH.out.below hwr) hjn
        have hx := HX.out
        rw [drop_of hg, chkC] at hx
        have had : ad.block < wr.heap.size := by omega
        have hc := HF.out k m t
        generalize fitC (k, m, t) = y at hc hx
        have HC := Lib.hid hc
        have HX2 := Lib.hid hx
        have hji : (j : Int) < (n : Int) := by omega
        clear hc hx hg HX
        go_wp2_with fail
        refine (HC.out _).mono ?_
        rintro e w1 ⟨rfl, hb1⟩
        have hw1 : Below w.heap.size w w1 := (hwr.alloc hzr _).trans (hb1.mono (by simp; omega))
        by_cases hy : y = 0
        · have HN : Hid (chkC (l.drop (j + 1)) = x) := by have := HX2.out; rw [if_neg (by simp [hy])] at this; exact this
          subst hy
          clear HX2
          go_wp2
          go_roundw
          case rel => exact ⟨j + 1, by omega, by go_num, HN, hw1⟩
          case measure => simp [intOf]; omega
        · have hyb : (y != 0) = true := by rw [bne_iff_ne]; exact hy
          obtain rfl : y = x := by have := HX2.out; rw [if_pos hy] at this; exact this
          clear HX2 hy
          go_wp2
          go_ret
          exact ⟨rfl, hw1⟩
      · obtain rfl : j = n := by omega
        have hx := HX.out
        rw [List.drop_of_length_le (by rw [HL.out]; omega), chkC] at hx
        subst hx
        go_wp2
        go_ret
        exact ⟨rfl, hwr⟩
end Go.Proofs.YtndhbdbfjkmloaaDoor
