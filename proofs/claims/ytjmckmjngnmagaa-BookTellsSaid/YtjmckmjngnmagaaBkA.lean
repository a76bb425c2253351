/- list.Accepts; cases in memory; book.fit, book.Check; lists of bools are compared. -/
import Derived.Test.YtjmckmjngnmagaaMrH
import Derived.BigQuiet
import Derived.Deep.QuietTactic
namespace Go.Proofs.Ytjmckmjngnmagaa
open Go.RowKit Go.Maps

/-- what a grammar makes of a text -/
noncomputable def outG (g : List Rl) (s : ByteArray) : Option Nat := Classical.epsilon fun o => ∃ r, g[0]? = some r ∧ Sem g s.data.toList r.2 0 o
theorem outG_is {g : List Rl} {s : ByteArray} {r : Rl} {o : Option Nat} (hr : g[0]? = some r) (h : Sem g s.data.toList r.2 0 o) : outG g s = o := by
  obtain ⟨r', hr', h'⟩ := Classical.epsilon_spec (p := fun o => ∃ r, g[0]? = some r ∧ Sem g s.data.toList r.2 0 o) ⟨o, r, hr, h⟩
  rw [hr] at hr'
  injection hr' with hr'
  subst hr'
  exact h'.eq h
theorem run_out {g : List Rl} {s : ByteArray} (hl0 : lookG g s = 0) {m : Nat} {o : Option Nat} {σ1 : PS} (h : pk g s.data.toList false m (.rule 0) 0 ps0 = some (o, σ1)) : outG g s = o ∧ ∀ k, o = some k → k ≤ s.size := by
  obtain ⟨W, h60⟩ := look_zero hl0
  have hpos := W.right.pos
  obtain ⟨r, hr⟩ : ∃ r, g[0]? = some r := ⟨_, List.getElem?_eq_getElem hpos⟩
  obtain ⟨n, o', he⟩ := ends (s := s.data.toList) W (p := 0) (by omega) (W.good (List.mem_of_getElem? hr))
  obtain ⟨rfl, _⟩ := same_run W hr he h
  refine ⟨outG_is hr ⟨n, he⟩, fun k hk => ?_⟩
  have ht := (told (s := s.data.toList) (fits_of W.right) n).1 r.2 0 o (W.right.rt r (List.mem_of_getElem? hr)) (by omega) he
  rw [hk] at ht
  have := ht.2.1
  rw [size_list] at this
  exact this
/-- what list.Accepts answers -/
noncomputable def accG (g : List Rl) (s : ByteArray) : Bool := decide (lookG g s = 0) && ((outG g s).isSome && decide ((outG g s).getD 0 = s.size))

set_option maxRecDepth 100000 in
set_option maxHeartbeats 4000000 in
theorem acc_any {g : List Rl} {A : Option Addr} {cp : Nat} {row : Nat → List Value} {w : World} (h : GrIs w w.heap.size g A cp row) (hwf : ∀ r ∈ g, WfE r.2) (s : ByteArray) :
    Calls Try.prog 76 #[.agg #[.slice A g.length cp], .string s] w fun e w' => e = .returned (.tuple #[.bool (accG g s), .int .i64 (lookG g s)]) ∧ Below w.heap.size w w' := by
  have hrn := fun W (hW : Below w.heap.size w W) => run_any (h.grow hW) hwf s
  have HR := Lib.hid hrn
  generalize hY : accG g s = Y
  generalize hX : lookG g s = X
  have HY := Lib.hid hY
  have HX := Lib.hid hX
  clear hrn h hwf hX hY
  go_enter Try.func76, Try.ntmps76
  go_wp2_with fail
  refine (HR.out _ (by repeat (first | exact Below.refl _ _ | assumption | refine Below.drew ?_ | refine below_drewN ?_ _ | refine Below.alloc ?_ (by first | omega | (simp; omega) | simp) _ | refine Below.setCell ?_ (by first | omega | (simp; omega) | simp) _))).mono ?_
  rintro e w1 ⟨hb1, hq⟩
  have hw1 : Below w.heap.size w w1 := ((Below.refl _ w).alloc (Nat.le_refl _) _).trans (hb1.mono (by simp))
  have hz1 := hw1.size
  clear hb1
  rcases hq with ⟨hne, rfl⟩ | ⟨hl0, o, σ1, V, lc, l', ⟨m, hpk⟩, ha, ht, hl, rfl, ho⟩
  · rw [HX.out] at hne ⊢
    have hxb : (X == 0) = false := by rw [beq_eq_false_iff_ne]; exact hne
    obtain rfl : Y = false := by rw [← HY.out]; unfold accG; rw [HX.out, decide_eq_false hne, Bool.false_and]
    rw [outV_eq]
    clear hne HX HY
    go_wp2
    go_ret2
    exact ⟨rfl, (by repeat (first | exact Below.refl _ _ | assumption | refine Below.drew ?_ | refine below_drewN ?_ _ | refine Below.alloc ?_ (by first | omega | (simp; omega) | simp) _ | refine Below.setCell ?_ (by first | omega | (simp; omega) | simp) _))⟩
  · clear ha ht hl ho
    obtain ⟨h1, h2⟩ := run_out hl0 hpk
    have hy : Y = (o.isSome && decide (o.getD 0 = s.size)) := by rw [← HY.out]; unfold accG; rw [hl0, h1]; rfl
    obtain rfl : X = 0 := by rw [← HX.out]; exact hl0
    rw [outV_eq]
    clear hl0 hpk h1 h2 HX HY
    generalize σ1.log.length = ll
    cases o with
    | none =>
      obtain rfl : Y = false := hy
      go_wp2
      go_ret2
      exact ⟨rfl, (by repeat (first | exact Below.refl _ _ | assumption | refine Below.drew ?_ | refine below_drewN ?_ _ | refine Below.alloc ?_ (by first | omega | (simp; omega) | simp) _ | refine Below.setCell ?_ (by first | omega | (simp; omega) | simp) _))⟩
    | some k =>
      have hy2 : Y = decide (k = s.size) := hy
      have hk : ((k : Int) == (s.size : Int)) = decide (k = s.size) := by rw [Bool.eq_iff_iff]; simp; omega
      rw [← hk] at hy2
      clear hk hy
      subst hy2
      simp only [Option.isSome_some, Option.getD_some]
      go_wp2
      go_ret2
      exact ⟨rfl, (by repeat (first | exact Below.refl _ _ | assumption | refine Below.drew ?_ | refine below_drewN ?_ _ | refine Below.alloc ?_ (by first | omega | (simp; omega) | simp) _ | refine Below.setCell ?_ (by first | omega | (simp; omega) | simp) _))⟩

/-- a case: its kind, its number, its text -/
abbrev Cs := Int × Int × ByteArray
def Cs.vals (c : Cs) : List Value := [.int .i64 c.1, .int .i64 c.2.1, .string c.2.2]
def caseC (l : List Cs) : List Value := l.flatMap Cs.vals
theorem caseC_get : ∀ (fs : List Cs) (i j : Nat) (x : Cs), fs[i]? = some x → j < 3 → (caseC fs)[i * 3 + j]? = x.vals[j]?
  | [], i, j, x, h, _ => by simp at h
  | y :: fs, 0, j, x, h, hj => by
    simp at h
    subst h
    have : (y.vals ++ caseC fs)[0 * 3 + j]? = y.vals[j]? := by rw [Nat.zero_mul, Nat.zero_add, List.getElem?_append_left (by simp [Cs.vals]; omega)]
    exact this
  | y :: fs, i + 1, j, x, h, hj => by
    have h1 := caseC_get fs i j x (by simpa using h) hj
    have : (y.vals ++ caseC fs)[(i + 1) * 3 + j]? = x.vals[j]? := by
      rw [List.getElem?_append_right (by simp [Cs.vals]; omega), ← h1]
      congr 1
      simp [Cs.vals]
      omega
    exact this
theorem caseC_len (fs : List Cs) : (caseC fs).length = fs.length * 3 := by
  induction fs with
  | nil => rfl
  | cons x fs ih =>
    show (x.vals ++ caseC fs).length = _
    rw [List.length_append, ih]
    simp [Cs.vals]
    omega
theorem reads_case {w : World} {B n i : Nat} {A : Option Addr} {fs : List Cs} (h : Reads w B 3 A n (caseC fs)) (hi : i < n) :
    ∃ (ad : Addr) (k m : Int) (t : ByteArray), A = some ad ∧ ad.block < B ∧ fs[i]? = some (k, m, t) ∧ w.cell? (ad.add (i * 3)) = some (.int .i64 k) ∧ w.cell? ⟨(ad.add (i * 3)).block, (ad.add (i * 3)).off + 1, none⟩ = some (.int .i64 m) ∧ w.cell? ⟨(ad.add (i * 3)).block, (ad.add (i * 3)).off + 2, none⟩ = some (.string t) := by
  obtain ⟨ad, rfl, hb, hc⟩ := h.lies (by omega)
  have hlen : fs.length = n := by have := h.len; rw [caseC_len] at this; omega
  have hx : fs[i]? = some fs[i] := List.getElem?_eq_getElem (by omega)
  generalize fs[i] = x at hx
  obtain ⟨k, m, t⟩ := x
  have h0 := hc _ _ (caseC_get fs i 0 (k, m, t) hx (by omega))
  have h1 := hc _ _ (caseC_get fs i 1 (k, m, t) hx (by omega))
  have h2 := hc _ _ (caseC_get fs i 2 (k, m, t) hx (by omega))
  refine ⟨ad, k, m, t, rfl, hb, hx, by simpa using h0, ?_, ?_⟩
  · rw [← add_add'] at h1; exact h1
  · rw [← add_add'] at h2; exact h2
/-- may a case be so? -/
def fitC (c : Cs) : Int := if 60 < c.2.2.size then 2 else if c.1 = 1 ∨ c.1 = 2 then (if c.2.1 ≠ 0 then 1 else 0) else if c.1 = 4 then (if c.2.1 < 0 ∨ (c.2.2.size : Int) < c.2.1 then 1 else 0) else 1
def chkC : List Cs → Int
  | [] => 0
  | c :: l => if fitC c ≠ 0 then fitC c else chkC l
def bchkC (l : List Cs) : Int := if 40 < l.length then 2 else chkC l

set_option maxRecDepth 100000 in
set_option maxHeartbeats 4000000 in
theorem fitC_any (k m : Int) (t : ByteArray) (w : World) : Calls Try.prog 95 #[.agg #[.int .i64 k, .int .i64 m, .string t]] w fun e w' => e = .returned (.int .i64 (fitC (k, m, t))) ∧ Below w.heap.size w w' := by
  unfold fitC
  simp only
  by_cases h60 : 60 < t.size
  · rw [if_pos h60]
    have h : (60 : Int) < (t.size : Int) := by omega
    go_enter Try.func95, Try.ntmps95
    go_wp2
    go_ret
    exact ⟨rfl, (by repeat (first | exact Below.refl _ _ | assumption | refine Below.drew ?_ | refine below_drewN ?_ _ | refine Below.alloc ?_ (by first | omega | (simp; omega) | simp) _ | refine Below.setCell ?_ (by first | omega | (simp; omega) | simp) _))⟩
  rw [if_neg h60]
  have h : ((60 : Int) < (t.size : Int)) = False := by simp; omega
  by_cases k12 : k = 1 ∨ k = 2
  · rw [if_pos k12]
    by_cases hm : m = 0
    · rw [if_neg (by simp [hm])]
      subst hm
      rcases k12 with rfl | rfl
      all_goals
        go_enter Try.func95, Try.ntmps95
        go_wp2
        go_ret
        exact ⟨rfl, (by repeat (first | exact Below.refl _ _ | assumption | refine Below.drew ?_ | refine below_drewN ?_ _ | refine Below.alloc ?_ (by first | omega | (simp; omega) | simp) _ | refine Below.setCell ?_ (by first | omega | (simp; omega) | simp) _))⟩
    · rw [if_pos hm]
      have hb : (m != 0) = true := by rw [bne_iff_ne]; exact hm
      clear hm
      rcases k12 with rfl | rfl
      all_goals
        go_enter Try.func95, Try.ntmps95
        go_wp2
        go_ret
        exact ⟨rfl, (by repeat (first | exact Below.refl _ _ | assumption | refine Below.drew ?_ | refine below_drewN ?_ _ | refine Below.alloc ?_ (by first | omega | (simp; omega) | simp) _ | refine Below.setCell ?_ (by first | omega | (simp; omega) | simp) _))⟩
  rw [if_neg k12]
  have b1 : (k == 1) = false := by rw [beq_eq_false_iff_ne]; omega
  have b2 : (k == 2) = false := by rw [beq_eq_false_iff_ne]; omega
  by_cases k4 : k = 4
  · rw [if_pos k4]
    subst k4
    clear k12
    by_cases hm : m < 0
    · rw [if_pos (.inl hm)]
      go_enter Try.func95, Try.ntmps95
      go_wp2
      go_ret
      exact ⟨rfl, (by repeat (first | exact Below.refl _ _ | assumption | refine Below.drew ?_ | refine below_drewN ?_ _ | refine Below.alloc ?_ (by first | omega | (simp; omega) | simp) _ | refine Below.setCell ?_ (by first | omega | (simp; omega) | simp) _))⟩
    · by_cases hs : (t.size : Int) < m
      · rw [if_pos (.inr hs)]
        go_enter Try.func95, Try.ntmps95
        go_wp2
        go_ret
        exact ⟨rfl, (by repeat (first | exact Below.refl _ _ | assumption | refine Below.drew ?_ | refine below_drewN ?_ _ | refine Below.alloc ?_ (by first | omega | (simp; omega) | simp) _ | refine Below.setCell ?_ (by first | omega | (simp; omega) | simp) _))⟩
      · rw [if_neg (by omega)]
        go_enter Try.func95, Try.ntmps95
        go_wp2
        go_ret
        exact ⟨rfl, (by repeat (first | exact Below.refl _ _ | assumption | refine Below.drew ?_ | refine below_drewN ?_ _ | refine Below.alloc ?_ (by first | omega | (simp; omega) | simp) _ | refine Below.setCell ?_ (by first | omega | (simp; omega) | simp) _))⟩
  · rw [if_neg k4]
    have b4 : (k == 4) = false := by rw [beq_eq_false_iff_ne]; exact k4
    clear k12 k4
    go_enter Try.func95, Try.ntmps95
    go_wp2
    go_ret
    exact ⟨rfl, (by repeat (first | exact Below.refl _ _ | assumption | refine Below.drew ?_ | refine below_drewN ?_ _ | refine Below.alloc ?_ (by first | omega | (simp; omega) | simp) _ | refine Below.setCell ?_ (by first | omega | (simp; omega) | simp) _))⟩

set_option maxRecDepth 100000 in
set_option maxHeartbeats 4000000 in
theorem bcheck_any {l : List Cs} {A : Option Addr} {n c : Nat} {w : World} (h : Reads w w.heap.size 3 A n (caseC l)) (hl : l.length = n) : Calls Try.prog 75 #[.slice A n c] w fun e w' => e = .returned (.int .i64 (bchkC l)) ∧ Below w.heap.size w w' := by
  have HL := Lib.hid hl
  unfold bchkC
  by_cases h40 : 40 < n
  · rw [if_pos (by omega)]
    have hi : (40 : Int) < (n : Int) := by omega
    clear hl
    go_enter Try.func75, Try.ntmps75
    go_wp2
    go_ret
    exact ⟨rfl, (by repeat (first | exact Below.refl _ _ | assumption | refine Below.drew ?_ | refine below_drewN ?_ _ | refine Below.alloc ?_ (by first | omega | (simp; omega) | simp) _ | refine Below.setCell ?_ (by first | omega | (simp; omega) | simp) _))⟩
  · rw [if_neg (by omega)]
    have hi : ((40 : Int) < (n : Int)) = False := by simp; omega
    have HX : Hid (chkC (l.drop 0) = chkC l) := rfl
    generalize chkC l = x at HX ⊢
    have hfi := fitC_any
    have HF := Lib.hid hfi
    have HH := Lib.hid h
    clear hl hfi h
    go_enter Try.func75, Try.ntmps75
    go_wp2
    go_loopw [11] (fun i wr => ∃ j : Nat, j ≤ n ∧ i = .int .i64 j ∧ Hid (chkC (l.drop j) = x) ∧ Below w.heap.size w wr) (fun i _ => n - (intOf i).toNat)
    case atStart => exact ⟨0, by omega, rfl, HX, (by repeat (first | exact Below.refl _ _ | assumption | refine Below.drew ?_ | refine below_drewN ?_ _ | refine Below.alloc ?_ (by first | omega | (simp; omega) | simp) _ | refine Below.setCell ?_ (by first | omega | (simp; omega) | simp) _))⟩
    case round =>
      obtain ⟨j, hj, rfl, HX, hwr⟩ := hrel
      have hzr := hwr.size
      by_cases hjn : j < n
      · obtain ⟨ad, k, m, t, rfl, hab, hg, e0, e1, e2⟩ := reads_case (HH.out.below hwr) hjn
        have hx := HX.out
        rw [drop_of hg, chkC] at hx
        have had : ad.block < wr.heap.size := by omega
        have hc := HF.out k m t
        generalize fitC (k, m, t) = y at hc hx
        have HC := Lib.hid hc
        have HX2 := Lib.hid hx
        have hji : (j : Int) < (n : Int) := by omega
        clear hc hx hg HX
        go_wp2_with fail
        refine (HC.out _).mono ?_
        rintro e w1 ⟨rfl, hb1⟩
        have hw1 : Below w.heap.size w w1 := (hwr.alloc hzr _).trans (hb1.mono (by simp; omega))
        by_cases hy : y = 0
        · have HN : Hid (chkC (l.drop (j + 1)) = x) := by have := HX2.out; rw [if_neg (by simp [hy])] at this; exact this
          subst hy
          clear HX2
          go_wp2
          go_roundw
          case rel => exact ⟨j + 1, by omega, by go_num, HN, hw1⟩
          case measure => simp [intOf]; omega
        · have hyb : (y != 0) = true := by rw [bne_iff_ne]; exact hy
          obtain rfl : y = x := by have := HX2.out; rw [if_pos hy] at this; exact this
          clear HX2 hy
          go_wp2
          go_ret
          exact ⟨rfl, hw1⟩
      · obtain rfl : j = n := by omega
        have hx := HX.out
        rw [List.drop_of_length_le (by rw [HL.out]; omega), chkC] at hx
        subst hx
        go_wp2
        go_ret
        exact ⟨rfl, hwr⟩

set_option maxRecDepth 100000 in
set_option maxHeartbeats 4000000 in
/-- one bool against one -/
theorem equalB_one (b b' : Nat) (x : Bool) (c : Nat) (w : World) (h : Reads w w.heap.size 1 (some ⟨b, 0, none⟩) 1 (bools [x])) (h' : Blk w b' 4 #[.bool true]) :
    Calls Try.prog 39 #[.slice (some ⟨b, 0, none⟩) 1 c, .slice (some ⟨b', 0, none⟩) 1 1] w fun e w' => e = .returned (.bool x) ∧ ∃ d, w' = w.drewN d := by
  have e0 : w.cell? ⟨b, 0, none⟩ = some (.bool x) := by
    obtain ⟨ad, y, hA, hab, hg, hc⟩ := reads_bool h (show 0 < 1 by omega)
    injection hA with hA
    subst hA
    simp at hg
    subst hg
    exact hc
  have e1 : w.cell? ⟨b', 0, none⟩ = some (.bool true) := h'.cell 0
  cases x with
  | false =>
    go_enter Try.func39, Try.ntmps39
    go_wp2
    go_loopw [5, 13] (fun _ i wr => ∃ j d : Nat, (j = 0 ∨ (j = 1 ∧ false = true)) ∧ i = .int .i64 j ∧ wr = w.drewN d) (fun _ i _ => 1 - (intOf i).toNat)
    case atStart => exact ⟨0, 0, .inl rfl, rfl, rfl⟩
    case round =>
      obtain ⟨j, d, hj, rfl, rfl⟩ := hrel
      rcases hj with rfl | ⟨rfl, hx⟩
      · go_wp2
        go_quiet (fail)
        go_wp2
        go_ret
        exact ⟨rfl, d + nq, by first | rfl | simp [World.drewN, Nat.add_assoc] | rw [World.drewN_drewN]⟩
      · cases hx
  | true =>
    go_enter Try.func39, Try.ntmps39
    go_wp2
    go_loopw [5, 13] (fun _ i wr => ∃ j d : Nat, (j = 0 ∨ (j = 1 ∧ true = true)) ∧ i = .int .i64 j ∧ wr = w.drewN d) (fun _ i _ => 1 - (intOf i).toNat)
    case atStart => exact ⟨0, 0, .inl rfl, rfl, rfl⟩
    case round =>
      obtain ⟨j, d, hj, rfl, rfl⟩ := hrel
      rcases hj with rfl | ⟨rfl, hx⟩
      · go_wp2
        go_quiet (fail)
        go_wp2
        go_roundw
        case rel => exact ⟨1, _, (by simp), by go_num, rfl⟩
        case measure => simp [intOf]
      · clear hx
        go_wp2
        go_ret
        exact ⟨rfl, d, rfl⟩
end Go.Proofs.Ytjmckmjngnmagaa
