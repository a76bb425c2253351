/- list.Look (over Str3: for seats without walk.Next). chafftop.right. chafftop.begun. Cases in memory; book.fit, book.Check. book.Run: what it answers (over AcA and BkS: for seats without mean.Run). What quote.next answers. What quote.Lit and quote.Unlit answer. quote.next does not look behind what it takes. -/
import Derived.Test.YtndhbdbfjkmloaaGreatDoorJTopBook4
import Derived.Test.YtndhbdbfjkmloaaGreatDoorJTopBook10
import Derived.Test.YtndhbdbfjkmloaaGreatDoorJTopBook1
import Derived.Test.YtndhbdbfjkmloaaGreatDoorJTopBook0
import Derived.Lib.IndexBytes
import Derived.Laws.BytesArg
namespace Go.Proofs.YtndhbdbfjkmloaaGreatDoor
open Go.RowKit

/-- may there be a list? -/
def LookOk (g : List Rl) (a : ByteArray) (n : Int) : Prop := (wellG g).2 = 0 ∧ AlphaOk a.data.toList ∧ ∃ k : Nat, n = k ∧ k ≤ 6 ∧ shN a.size (k + 1) ≤ 5000
theorem well_lt (g : List Rl) : 0 ≤ (wellG g).2 ∧ (wellG g).2 ≤ 9 := by
  have h := check_lt g
  unfold wellG
  split
  · simp only; omega
  · split
    · simp only; omega
    · split <;> simp only <;> omega
theorem below_of_drewn {w w' : World} (h : ∃ d, w' = w.drewN d) : Below w.heap.size w w' := by obtain ⟨d, rfl⟩ := h; exact below_drewN (Below.refl _ _) d
def LLookQ (g : List Rl) (a : ByteArray) (n : Int) (w : World) (e : Ending) (w' : World) : Prop := (∃ x, e = .returned (.int .i64 x) ∧ (x = 0 ↔ LookOk g a n) ∧ x ≠ 11) ∧ Below w.heap.size w w'

set_option maxRecDepth 100000 in
set_option maxHeartbeats 4000000 in
theorem llook_any {g : List Rl} {A : Option Addr} {cp : Nat} {row : Nat → List Value} {w : World} (h : GrIs w w.heap.size g A cp row) (a : ByteArray) (n : Int) (ha : a.size ≤ 140737488351232) (hn : I64 n) :
    Calls Tryz.prog 14 #[.agg #[.slice A g.length cp], .string a, .int .i64 n] w (LLookQ g a n w) := by
  have hck := fun W (hW : Below w.heap.size w W) => well_any ((h.on hW).more hW.size)
  have HCK := Lib.hid hck
  have hma := fun W => many3_any a n W ha hn
  have HM := Lib.hid hma
  have HL : Hid (∀ x, (x = 0 ↔ LookOk g a n) ∧ x ≠ 11 → ∀ w', Below w.heap.size w w' → LLookQ g a n w (.returned (.int .i64 x)) w') := fun x hx w' hb => ⟨⟨x, rfl, hx⟩, hb⟩
  have HR : Hid (0 ≤ (wellG g).2 ∧ (wellG g).2 ≤ 9) := well_lt g
  have HD : Hid (LookOk g a n ↔ (wellG g).2 = 0 ∧ AlphaOk a.data.toList ∧ ∃ k : Nat, n = k ∧ k ≤ 6 ∧ shN a.size (k + 1) ≤ 5000) := Iff.rfl
  clear hck h hma hn ha
  generalize LLookQ g a n w = Q at HL
  generalize LookOk g a n = L at HL HD
  unfold WellQ at HCK
  generalize wellG g = r at HCK HR HD
  obtain ⟨i, x⟩ := r
  by_cases hx : x = 0
  · subst hx
    go_enter Tryz.func14, Tryz.ntmps14
    go_wp2_with fail
    refine (HCK.out _ (by repeat (first | exact Below.refl _ _ | assumption | refine Below.drew ?_ | refine below_drewN ?_ _ | refine Below.alloc ?_ (by first | omega | (simp; omega) | simp) _ | refine Below.setCell ?_ (by first | omega | (simp; omega) | simp) _))).mono ?_
    rintro e w1 ⟨rfl, hb1⟩
    have hw1 : Below w.heap.size w w1 := ((Below.refl _ w).alloc (Nat.le_refl _) _).trans (hb1.mono (by simp))
    clear hb1
    go_wp2_with fail
    refine (HM.out _).mono ?_
    rintro e w2 ⟨⟨m, y, rfl, hy, h11⟩, hd⟩
    have hb2 : Below w1.heap.size w1 w2 := below_of_drewn hd
    have hw2 : Below w.heap.size w w2 := hw1.trans (hb2.mono hw1.size)
    clear hb2 hd
    rcases hy with ⟨rfl, hao, k, rfl, hk, rfl⟩ | ⟨hy0, rfl, hno⟩
    · by_cases hm : shN a.size (k + 1) ≤ 5000
      · have HQ := HL.out 0 ⟨by rw [HD.out]; exact ⟨fun _ => ⟨by trivial, hao, k, rfl, hk, hm⟩, fun _ => rfl⟩, by decide⟩ w2 hw2
        have hmi : ((5000 : Int) < ((shN a.size (k + 1) : Nat) : Int)) = False := by simp; omega
        generalize shN a.size (k + 1) = M at hmi
        have HQ' := Lib.hid HQ
        clear HQ hm hao h11
        go_wp2
        exact HQ'.out
      · have HQ := HL.out 2 ⟨by rw [HD.out]; exact ⟨fun h => by simp at h, fun ⟨_, _, k', h1, _, h2⟩ => absurd (by rw [show k = k' by omega]; exact h2) hm⟩, by decide⟩ w2 hw2
        have hmi : (5000 : Int) < ((shN a.size (k + 1) : Nat) : Int) := by omega
        generalize shN a.size (k + 1) = M at hmi
        have HQ' := Lib.hid HQ
        clear HQ hm hao h11
        go_wp2
        exact HQ'.out
    · have HQ := HL.out y ⟨by rw [HD.out]; exact ⟨fun h => absurd h hy0, fun ⟨_, h1, k', h2, h3, _⟩ => by have := hno h1; omega⟩, h11⟩ w2 hw2
      have HQ' := Lib.hid HQ
      have hyb : (y != 0) = true := by rw [bne_iff_ne]; exact hy0
      clear HQ hy0 h11 hno
      go_wp2
      exact HQ'.out
  · have HQ : Hid (∀ w', Below w.heap.size w w' → Q (.returned (.int .i64 x)) w') := HL.out x ⟨by rw [HD.out]; exact ⟨fun h => absurd h hx, fun ⟨h1, _⟩ => absurd h1 hx⟩, fun h => by have := HR.out; simp only at this; omega⟩
    have hxb : (x != 0) = true := by rw [bne_iff_ne]; exact hx
    clear hx
    go_enter Tryz.func14, Tryz.ntmps14
    go_wp2_with fail
    refine (HCK.out _ (by repeat (first | exact Below.refl _ _ | assumption | refine Below.drew ?_ | refine below_drewN ?_ _ | refine Below.alloc ?_ (by first | omega | (simp; omega) | simp) _ | refine Below.setCell ?_ (by first | omega | (simp; omega) | simp) _))).mono ?_
    rintro e w1 ⟨rfl, hb1⟩
    have hw1 : Below w.heap.size w w1 := ((Below.refl _ w).alloc (Nat.le_refl _) _).trans (hb1.mono (by simp))
    clear hb1
    go_wp2
    exact HQ.out _ hw1
end Go.Proofs.YtndhbdbfjkmloaaGreatDoor
namespace Go.Proofs.YtndhbdbfjkmloaaGreatDoor
open Go.RowKit

set_option maxRecDepth 100000 in
theorem right_any {g : List Rl} {A : Option Addr} {cp : Nat} {row : Nat → List Value} {w : World} (h : GrIs w w.heap.size g A cp row) (a : ByteArray) (n : Int) (ha : a.size ≤ 140737488351232) (hn : I64 n) :
    Calls Tryz.prog 6 #[.agg #[.slice A g.length cp], .string a, .int .i64 n] w fun e w' => ∃ b, e = .returned (.bool b) ∧ (b = true ↔ LookOk g a n) ∧ Below w.heap.size w w' := by
  have hl := fun W (hW : Below w.heap.size w W) => llook_any (h.grow hW) a n ha hn
  have HL := Lib.hid hl
  clear hl h
  go_enter Tryz.func6, Tryz.ntmps6
  go_wp2_with fail
  refine (HL.out _ (by repeat (first | exact Below.refl _ _ | assumption | refine Below.drew ?_ | refine below_drewN ?_ _ | refine Below.alloc ?_ (by first | omega | (simp; omega) | simp) _ | refine Below.setCell ?_ (by first | omega | (simp; omega) | simp) _))).mono ?_
  rintro e w1 ⟨⟨x, rfl, hx, -⟩, hb1⟩
  have hw1 : Below w.heap.size w w1 := ((Below.refl _ w).alloc (Nat.le_refl _) _).trans (hb1.mono (by first | omega | (simp; omega) | simp))
  have HX := Lib.hid hx
  clear hx hb1
  by_cases h0 : x = 0
  · have hxb : (x == 0) = true := by rw [beq_iff_eq]; exact h0
    have HY := Lib.hid (HX.out.1 h0)
    clear h0 HX
    go_wp2
    go_ret
    exact ⟨true, rfl, ⟨fun _ => HY.out, fun _ => rfl⟩, hw1⟩
  · have hxb : (x == 0) = false := by rw [beq_eq_false_iff_ne]; exact h0
    have HY : Hid (¬ LookOk g a n) := fun hh => h0 (HX.out.2 hh)
    clear h0 HX
    go_wp2
    go_ret
    exact ⟨false, rfl, ⟨fun h => (by cases h), fun h => absurd h HY.out⟩, hw1⟩
end Go.Proofs.YtndhbdbfjkmloaaGreatDoor
namespace Go.Proofs.YtndhbdbfjkmloaaGreatDoor
open Go.RowKit Go.Maps

def xG1 : List Rl := [(nameA, litE ⟨#[120]⟩)]
theorem x1_look : lookG xG1 ⟨#[120]⟩ = 0 := by decide +kernel
theorem x1_ev : ev xG1 [120] 3 (litE ⟨#[120]⟩) 0 = some (some 1) := by decide +kernel
theorem x1_acc : accG xG1 ⟨#[120]⟩ = true := by
  unfold accG
  rw [x1_look, outG_is (r := (nameA, litE ⟨#[120]⟩)) rfl ⟨3, x1_ev⟩]
  rfl
theorem wf_litT (t : ByteArray) : WfE (litE t) := .mk _ _ _ _ _ _ _ (by unfold I64; omega) (by unfold U64; omega) (by unfold U64; omega) (by unfold U64; omega) (by unfold U64; omega) (fun e he => by cases he)
set_option maxRecDepth 100000 in
theorem topx1_any (w : World) : Calls Tryz.prog 13 #[] w fun e' w' => ∃ b, e' = .returned (.agg #[.slice (some ⟨b, 0, none⟩) 1 1]) ∧ GrIs w' w'.heap.size xG1 (some ⟨b, 0, none⟩) 1 (fun _ => exCells 3 0 0 0 0 ⟨#[120]⟩ none 0 0) ∧ Below w.heap.size w w' := by
  go_enter Tryz.func13, Tryz.ntmps13
  go_wp2
  refine bodyPost_ret (v := .agg #[.slice (some ⟨w.heap.size + 1, 0, none⟩) 1 1]) (by simp [results, Tryz.results13, go_sem]) rfl ⟨w.heap.size + 1, rfl, gr_one (cs := #[.string nameA, .int .i64 3, .int .u64 0, .int .u64 0, .int .u64 0, .int .u64 0, .string ⟨#[120]⟩, .slice none 0 0]) (by decide) (litE_is _ ⟨#[120]⟩ (by decide)) (blk_at (by simp)) rfl, (by repeat (first | exact Below.refl _ _ | assumption | refine Below.drew ?_ | refine below_drewN ?_ _ | refine Below.alloc ?_ (by first | omega | (simp; omega) | simp) _ | refine Below.setCell ?_ (by first | omega | (simp; omega) | simp) _))⟩
set_option maxRecDepth 100000 in
theorem begun1_any (w : World) : Calls Tryz.prog 5 #[] w fun e w' => e = .returned (.bool true) ∧ Below w.heap.size w w' := by
  have hx := fun W => topx1_any W
  have HX := Lib.hid hx
  clear hx
  go_enter Tryz.func5, Tryz.ntmps5
  go_wp2_with fail
  refine (HX.out _).mono ?_
  rintro e w1 ⟨b, rfl, hG, hb1⟩
  have hac := acc_any hG (fun r hr => by unfold xG1 at hr; rw [List.mem_singleton] at hr; subst hr; exact wf_litT _) ⟨#[120]⟩
  rw [x1_acc, x1_look] at hac
  have HA := Lib.hid hac
  clear hac hG
  go_wp2_with fail
  refine HA.out.mono ?_
  rintro e w2 ⟨rfl, hb2⟩
  have hw2 := hb1.trans (hb2.mono hb1.size)
  go_wp2
  go_ret
  exact ⟨rfl, hw2⟩
end Go.Proofs.YtndhbdbfjkmloaaGreatDoor
namespace Go.Proofs.YtndhbdbfjkmloaaGreatDoor
open Go.RowKit

/-- a case: its kind, its number, its text -/
abbrev Cs := Int × Int × ByteArray
def Cs.vals (c : Cs) : List Value := [.int .i64 c.1, .int .i64 c.2.1, .string c.2.2]
def caseC (l : List Cs) : List Value := l.flatMap Cs.vals
theorem caseC_get : ∀ (fs : List Cs) (i j : Nat) (x : Cs), fs[i]? = some x → j < 3 → (caseC fs)[i * 3 + j]? = x.vals[j]?
  | [], i, j, x, h, _ => by simp at h
  | y :: fs, 0, j, x, h, hj => by
    simp at h
    subst h
    have : (y.vals ++ caseC fs)[0 * 3 + j]? = y.vals[j]? := by rw [Nat.zero_mul, Nat.zero_add, List.getElem?_append_left (by simp [Cs.vals]; omega)]
    exact this
  | y :: fs, i + 1, j, x, h, hj => by
    have h1 := caseC_get fs i j x (by simpa using h) hj
    have : (y.vals ++ caseC fs)[(i + 1) * 3 + j]? = x.vals[j]? := by
      rw [List.getElem?_append_right (by simp [Cs.vals]; omega), ← h1]
      congr 1
      simp [Cs.vals]
      omega
    exact this
theorem caseC_len (fs : List Cs) : (caseC fs).length = fs.length * 3 := by
  induction fs with
  | nil => rfl
  | cons x fs ih =>
    show (x.vals ++ caseC fs).length = _
    rw [List.length_append, ih]
    simp [Cs.vals]
    omega
theorem reads_case {w : World} {B n i : Nat} {A : Option Addr} {fs : List Cs} (h : Reads w B 3 A n (caseC fs)) (hi : i < n) :
    ∃ (ad : Addr) (k m : Int) (t : ByteArray), A = some ad ∧ ad.block < B ∧ fs[i]? = some (k, m, t) ∧ w.cell? (ad.add (i * 3)) = some (.int .i64 k) ∧ w.cell? ⟨(ad.add (i * 3)).block, (ad.add (i * 3)).off + 1, none⟩ = some (.int .i64 m) ∧ w.cell? ⟨(ad.add (i * 3)).block, (ad.add (i * 3)).off + 2, none⟩ = some (.string t) := by
  obtain ⟨ad, rfl, hb, hc⟩ := h.lies (by omega)
  have hlen : fs.length = n := by have := h.len; rw [caseC_len] at this; omega
  have hx : fs[i]? = some fs[i] := List.getElem?_eq_getElem (by omega)
  generalize fs[i] = x at hx
  obtain ⟨k, m, t⟩ := x
  have h0 := hc _ _ (caseC_get fs i 0 (k, m, t) hx (by omega))
  have h1 := hc _ _ (caseC_get fs i 1 (k, m, t) hx (by omega))
  have h2 := hc _ _ (caseC_get fs i 2 (k, m, t) hx (by omega))
  refine ⟨ad, k, m, t, rfl, hb, hx, by simpa using h0, ?_, ?_⟩
  · rw [← add_add'] at h1; exact h1
  · rw [← add_add'] at h2; exact h2
/-- may a case be so? -/
def fitC (c : Cs) : Int := if 60 < c.2.2.size then 2 else if c.1 = 1 ∨ c.1 = 2 then (if c.2.1 ≠ 0 then 1 else 0) else if c.1 = 4 then (if c.2.1 < 0 ∨ (c.2.2.size : Int) < c.2.1 then 1 else 0) else 1
def chkC : List Cs → Int
  | [] => 0
  | c :: l => if fitC c ≠ 0 then fitC c else chkC l
def bchkC (l : List Cs) : Int := if 40 < l.length then 2 else chkC l

set_option maxRecDepth 100000 in
set_option maxHeartbeats 4000000 in
theorem fitC_any (k m : Int) (t : ByteArray) (w : World) : Calls Tryz.prog 27 #[.agg #[.int .i64 k, .int .i64 m, .string t]] w fun e w' => e = .returned (.int .i64 (fitC (k, m, t))) ∧ Below w.heap.size w w' := by
  unfold fitC
  simp only
  by_cases h60 : 60 < t.size
  · rw [if_pos h60]
    have h : (60 : Int) < (t.size : Int) := by omega
    go_enter Tryz.func27, Tryz.ntmps27
    go_wp2
    go_ret
    exact ⟨rfl, (by repeat (first | exact Below.refl _ _ | assumption | refine Below.drew ?_ | refine below_drewN ?_ _ | refine Below.alloc ?_ (by first | omega | (simp; omega) | simp) _ | refine Below.setCell ?_ (by first | omega | (simp; omega) | simp) _))⟩
  rw [if_neg h60]
  have h : ((60 : Int) < (t.size : Int)) = False := by simp; omega
  by_cases k12 : k = 1 ∨ k = 2
  · rw [if_pos k12]
    by_cases hm : m = 0
    · rw [if_neg (by simp [hm])]
      subst hm
      rcases k12 with rfl | rfl
      all_goals
        go_enter Tryz.func27, Tryz.ntmps27
        go_wp2
        go_ret
        exact ⟨rfl, (by repeat (first | exact Below.refl _ _ | assumption | refine Below.drew ?_ | refine below_drewN ?_ _ | refine Below.alloc ?_ (by first | omega | (simp; omega) | simp) _ | refine Below.setCell ?_ (by first | omega | (simp; omega) | simp) _))⟩
    · rw [if_pos hm]
      have hb : (m != 0) = true := by rw [bne_iff_ne]; exact hm
      clear hm
      rcases k12 with rfl | rfl
      all_goals
        go_enter Tryz.func27, Tryz.ntmps27
        go_wp2
        go_ret
        exact ⟨rfl, (by repeat (first | exact Below.refl _ _ | assumption | refine Below.drew ?_ | refine below_drewN ?_ _ | refine Below.alloc ?_ (by first | omega | (simp; omega) | simp) _ | refine Below.setCell ?_ (by first | omega | (simp; omega) | simp) _))⟩
  rw [if_neg k12]
  have b1 : (k == 1) = false := by rw [beq_eq_false_iff_ne]; omega
  have b2 : (k == 2) = false := by rw [beq_eq_false_iff_ne]; omega
  by_cases k4 : k = 4
  · rw [if_pos k4]
    subst k4
    clear k12
    by_cases hm : m < 0
    · rw [if_pos (.inl hm)]
      go_enter Tryz.func27, Tryz.ntmps27
      go_wp2
      go_ret
      exact ⟨rfl, (by repeat (first | exact Below.refl _ _ | assumption | refine Below.drew ?_ | refine below_drewN ?_ _ | refine Below.alloc ?_ (by first | omega | (simp; omega) | simp) _ | refine Below.setCell ?_ (by first | omega | (simp; omega) | simp) _))⟩
    · by_cases hs : (t.size : Int) < m
      · rw [if_pos (.inr hs)]
        go_enter Tryz.func27, Tryz.ntmps27
        go_wp2
        go_ret
        exact ⟨rfl, (by repeat (first | exact Below.refl _ _ | assumption | refine Below.drew ?_ | refine below_drewN ?_ _ | refine Below.alloc ?_ (by first | omega | (simp; omega) | simp) _ | refine Below.setCell ?_ (by first | omega | (simp; omega) | simp) _))⟩
      · rw [if_neg (by omega)]
        go_enter Tryz.func27, Tryz.ntmps27
        go_wp2
        go_ret
        exact ⟨rfl, (by repeat (first | exact Below.refl _ _ | assumption | refine Below.drew ?_ | refine below_drewN ?_ _ | refine Below.alloc ?_ (by first | omega | (simp; omega) | simp) _ | refine Below.setCell ?_ (by first | omega | (simp; omega) | simp) _))⟩
  · rw [if_neg k4]
    have b4 : (k == 4) = false := by rw [beq_eq_false_iff_ne]; exact k4
    clear k12 k4
    go_enter Tryz.func27, Tryz.ntmps27
    go_wp2
    go_ret
    exact ⟨rfl, (by repeat (first | exact Below.refl _ _ | assumption | refine Below.drew ?_ | refine below_drewN ?_ _ | refine Below.alloc ?_ (by first | omega | (simp; omega) | simp) _ | refine Below.setCell ?_ (by first | omega | (simp; omega) | simp) _))⟩

set_option maxRecDepth 100000 in
set_option maxHeartbeats 4000000 in
theorem bcheck_any {l : List Cs} {A : Option Addr} {n c : Nat} {w : World} (h : Reads w w.heap.size 3 A n (caseC l)) (hl : l.length = n) : Calls Tryz.prog 16 #[.slice A n c] w fun e w' => e = .returned (.int .i64 (bchkC l)) ∧ Below w.heap.size w w' := by
  have HL := Lib.hid hl
  unfold bchkC
  by_cases h40 : 40 < n
  · rw [if_pos (by omega)]
    have hi : (40 : Int) < (n : Int) := by omega
    clear hl
    go_enter Tryz.func16, Tryz.ntmps16
    go_wp2
    go_ret
    exact ⟨rfl, (by repeat (first | exact Below.refl _ _ | assumption | refine Below.drew ?_ | refine below_drewN ?_ _ | refine Below.alloc ?_ (by first | omega | (simp; omega) | simp) _ | refine Below.setCell ?_ (by first | omega | (simp; omega) | simp) _))⟩
  · rw [if_neg (by omega)]
    have hi : ((40 : Int) < (n : Int)) = False := by simp; omega
    have HX : Hid (chkC (l.drop 0) = chkC l) := rfl
    generalize chkC l = x at HX ⊢
    have hfi := fitC_any
    have HF := Lib.hid hfi
    have HH := Lib.hid h
    clear hl hfi h
    go_enter Tryz.func16, Tryz.ntmps16
    go_wp2
    go_loopw [11] (fun i wr => ∃ j : Nat, j ≤ n ∧ i = .int .i64 j ∧ Hid (chkC (l.drop j) = x) ∧ Below w.heap.size w wr) (fun i _ => n - (intOf i).toNat)
    case atStart => exact ⟨0, by omega, rfl, HX, (by repeat (first | exact Below.refl _ _ | assumption | refine Below.drew ?_ | refine below_drewN ?_ _ | refine Below.alloc ?_ (by first | omega | (simp; omega) | simp) _ | refine Below.setCell ?_ (by first | omega | (simp; omega) | simp) _))⟩
    case round =>
      obtain ⟨j, hj, rfl, HX, hwr⟩ := hrel
      have hzr := hwr.size
      by_cases hjn : j < n
      · obtain ⟨ad, k, m, t, rfl, hab, hg, e0, e1, e2⟩ := reads_case (HH.out.below hwr) hjn
        have hx := HX.out
        rw [drop_of hg, chkC] at hx
        have had : ad.block < wr.heap.size := by omega
        have hc := HF.out k m t
        generalize fitC (k, m, t) = y at hc hx
        have HC := Lib.hid hc
        have HX2 := Lib.hid hx
        have hji : (j : Int) < (n : Int) := by omega
        clear hc hx hg HX
        go_wp2_with fail
        refine (HC.out _).mono ?_
        rintro e w1 ⟨rfl, hb1⟩
        have hw1 : Below w.heap.size w w1 := (hwr.alloc hzr _).trans (hb1.mono (by simp; omega))
        by_cases hy : y = 0
        · have HN : Hid (chkC (l.drop (j + 1)) = x) := by have := HX2.out; rw [if_neg (by simp [hy])] at this; exact this
          subst hy
          clear HX2
          go_wp2
          go_roundw
          case rel => exact ⟨j + 1, by omega, by go_num, HN, hw1⟩
          case measure => simp [intOf]; omega
        · have hyb : (y != 0) = true := by rw [bne_iff_ne]; exact hy
          obtain rfl : y = x := by have := HX2.out; rw [if_pos hy] at this; exact this
          clear HX2 hy
          go_wp2
          go_ret
          exact ⟨rfl, hw1⟩
      · obtain rfl : j = n := by omega
        have hx := HX.out
        rw [List.drop_of_length_le (by rw [HL.out]; omega), chkC] at hx
        subst hx
        go_wp2
        go_ret
        exact ⟨rfl, hwr⟩
end Go.Proofs.YtndhbdbfjkmloaaGreatDoor
namespace Go.Proofs.YtndhbdbfjkmloaaGreatDoor
open Go.RowKit Go.Maps

/-- does a case hold? -/
noncomputable def tellB (g : List Rl) (c : Cs) : Bool := (if c.1 = 4 then ((outG g c.2.2).isSome && decide ((((outG g c.2.2).getD 0 : Nat) : Int) = c.2.1)) else accG g c.2.2) == decide (c.1 ≠ 2)
/-- what book.Run answers -/
def BRunQ (g : List Rl) (l : List Cs) (w : World) (e : Ending) (w' : World) : Prop := Below w.heap.size w w' ∧
  (((wellG g).2 ≠ 0 ∧ e = .returned (.tuple #[.slice none 0 0, .int .i64 (wellG g).2])) ∨ ((wellG g).2 = 0 ∧ bchkC l ≠ 0 ∧ e = .returned (.tuple #[.slice none 0 0, .int .i64 (bchkC l)])) ∨
   ((wellG g).2 = 0 ∧ bchkC l = 0 ∧ ∃ V c, (l ≠ [] → l.length ≤ c ∧ ∃ F, V = some ⟨F, 0, none⟩) ∧ e = .returned (.tuple #[.slice V l.length c, .int .i64 0]) ∧ Reads w' w'.heap.size 1 V l.length (bools (l.map (tellB g)))))
theorem chk_fit : ∀ {l : List Cs}, chkC l = 0 → ∀ c ∈ l, fitC c = 0
  | [], _, c, hc => by cases hc
  | x :: l, h, c, hc => by
    rw [chkC] at h
    split at h
    · rename_i hn; exact absurd h hn
    · rename_i hn
      rcases List.mem_cons.1 hc with rfl | hc
      · exact Classical.byContradiction hn
      · exact chk_fit h c hc
theorem fit_60 {c : Cs} (h : fitC c = 0) : c.2.2.size ≤ 60 := by
  unfold fitC at h
  split at h
  · omega
  · omega
theorem fit_kind {k m : Int} {t : ByteArray} (h : fitC (k, m, t) = 0) : k = 1 ∨ k = 2 ∨ k = 4 := by
  unfold fitC at h
  simp only at h
  split at h
  · omega
  split at h
  · rename_i h12; omega
  split at h
  · omega
  · omega
theorem tell_snoc {g : List Rl} {l : List Cs} {j : Nat} {c : Cs} {y : Bool} (h : l[j]? = some c) (hy : tellB g c = y) : bools ((l.take j).map (tellB g)) ++ [.bool y] = bools ((l.take (j + 1)).map (tellB g)) := by
  rw [take_succ_of h, List.map_append, bools, bools, List.map_append, ← hy]
  rfl
theorem bool_info : (Tryz.prog.info? 4).map (fun i => (i.zero, i.size, i.bytes)) = some (some (.bool false), 1, 1) := by kernel_rfl

set_option maxRecDepth 100000 in
set_option maxHeartbeats 8000000 in
theorem brun_any {g : List Rl} {A LA : Option Addr} {cp n c : Nat} {row : Nat → List Value} {l : List Cs} {w : World} (h : GrIs w w.heap.size g A cp row) (hwf : ∀ r ∈ g, WfE r.2) (hl : Reads w w.heap.size 3 LA n (caseC l)) (hn : l.length = n) :
    Calls Tryz.prog 11 #[.agg #[.slice A g.length cp], .slice LA n c] w (BRunQ g l w) := by
  have hso := run_same_out
  obtain ⟨i0, hi0, hz0, hz1, hz2⟩ := info_parts bool_info
  have hwl := fun W (hW : Below w.heap.size w W) => well_any (h.grow hW)
  have hck := fun W (hW : Below w.heap.size w W) => bcheck_any (c := c) ((hl.below hW).more hW.size) hn
  have hac := fun W (hW : Below w.heap.size w W) (t : ByteArray) => acc_any (h.grow hW) hwf t
  have hrn := fun W (hW : Below w.heap.size w W) (t : ByteArray) => run_any (h.grow hW) hwf t
  have HW := Lib.hid hwl
  have HCK := Lib.hid hck
  have HAC := Lib.hid hac
  have HRN := Lib.hid hrn
  have HLL := Lib.hid hl
  have HN := Lib.hid hn
  clear hwl hck hac hrn h hwf hl hn
  by_cases hw0 : (wellG g).2 = 0
  · by_cases hc0 : bchkC l = 0
    · have HBQ : ∀ e w', Hid (Below w.heap.size w w' → (∃ V c, (l ≠ [] → l.length ≤ c ∧ ∃ F, V = some ⟨F, 0, none⟩) ∧ e = .returned (.tuple #[.slice V n c, .int .i64 0]) ∧ Reads w' w'.heap.size 1 V n (bools (l.map (tellB g)))) → BRunQ g l w e w') := fun e w' hb h => ⟨hb, .inr (.inr ⟨hw0, hc0, by have h1 := HN.out; subst h1; exact h⟩)⟩
      have hfit : ∀ (j : Nat) (x : Cs), l[j]? = some x → lookG g x.2.2 = 0 ∧ fitC x = 0 := fun j x hx => by
        have h1 : chkC l = 0 := by
          unfold bchkC at hc0
          split at hc0
          · cases hc0
          · exact hc0
        have h3 := chk_fit h1 x (List.mem_of_getElem? hx)
        have h2 := fit_60 h3
        refine ⟨?_, h3⟩
        unfold lookG
        rw [if_neg (by rw [hw0]; simp), if_neg (by omega)]
      have hn40 : n ≤ 40 := by
        unfold bchkC at hc0
        split at hc0
        · cases hc0
        · have := HN.out; omega
      have HFI := Lib.hid hfit
      rw [hc0] at HCK
      clear hfit hc0
      go_enter Tryz.func11, Tryz.ntmps11
      go_wp2_with fail
      refine (HW.out _ (by repeat (first | exact Below.refl _ _ | assumption | refine Below.drew ?_ | refine below_drewN ?_ _ | refine Below.alloc ?_ (by first | omega | (simp; omega) | simp) _ | refine Below.setCell ?_ (by first | omega | (simp; omega) | simp) _))).mono ?_
      unfold WellQ
      rintro e w1 ⟨rfl, hb1⟩
      have hgx : Blk w1 w.heap.size 24 #[.slice A g.length cp] := (blk_at rfl).below hb1 (by simp)
      have hw1 : Below w.heap.size w w1 := ((Below.refl _ w).alloc (Nat.le_refl _) _).trans (hb1.mono (by simp))
      clear hb1
      rw [hw0]
      generalize (wellG g).1 = x1
      go_wp2_with fail
      refine (HCK.out _ hw1).mono ?_
      rintro e w2 ⟨rfl, hb2⟩
      have hgx2 := hgx.below hb2 hgx.lt
      have hw2 := hw1.trans (hb2.mono hw1.size)
      clear hb2 hgx hw1
      go_wp2
      go_loopw [9, 32] (fun v i wr => ∃ j : Nat, j ≤ n ∧ i = .int .i64 j ∧ Hid (wr.ownsRow (w.heap.size + 1) 4 1 v j (bools ((l.take j).map (tellB g)))) ∧ Below w.heap.size w wr ∧ Blk wr w.heap.size 24 #[.slice A g.length cp]) (fun _ i _ => n - (intOf i).toNat)
      case atStart => exact ⟨0, by omega, rfl, World.ownsRow_nil _ _ _ _, hw2, hgx2⟩
      case round =>
        clear hw2 hgx2
        obtain ⟨j, hj, rfl, HO, hwr, hgx⟩ := hrel
        have hzr := hwr.size
        have hgl := hgx.lt
        obtain ⟨V, c2, rfl⟩ := own_form HO.out
        by_cases hjn : j < n
        · obtain ⟨ad, k, m, t, rfl, hab, hg, e0, e1, e2⟩ := reads_case (HLL.out.below hwr) hjn
          obtain ⟨hlk, hft⟩ := HFI.out j _ hg
          have hk3 : k = 1 ∨ k = 2 ∨ k = 4 := fit_kind hft
          simp only at hlk
          clear hft
          have had : ad.block < wr.heap.size := by omega
          have hji : (j : Int) < (n : Int) := by omega
          have g0 : wr.cell? ⟨w.heap.size, 0, none⟩ = some (.slice A g.length cp) := hgx.cell 0
          have HG := Lib.hid hg
          clear hg
          go_wp2_with fail
          refine (HAC.out _ (by repeat (first | exact Below.refl _ _ | assumption | refine Below.drew ?_ | refine below_drewN ?_ _ | refine Below.alloc ?_ (by first | omega | (simp; omega) | simp) _ | refine Below.setCell ?_ (by first | omega | (simp; omega) | simp) _)) t).mono ?_
          rintro e w3 ⟨rfl, hb3⟩
          have hx3 : Blk w3 wr.heap.size 35 #[.int .i64 k, .int .i64 m, .string t] := (blk_at rfl).below hb3 (by simp)
          have hgx3 := (hgx.alloc _).below hb3 (by simp; omega)
          have hO3 := own_below (HO.out.alloc (.cells #[.int .i64 k, .int .i64 m, .string t] 35)) hb3
          have hw3 : Below w.heap.size w w3 := (hwr.alloc hzr _).trans (hb3.mono (by simp; omega))
          have hz3 := hw3.size
          have hxl := hx3.lt
          have hgl3 := hgx3.lt
          have x0 : w3.cell? ⟨wr.heap.size, 0, none⟩ = some (.int .i64 k) := hx3.cell 0
          have x1 : w3.cell? ⟨wr.heap.size, 1, none⟩ = some (.int .i64 m) := hx3.cell 1
          have x2 : w3.cell? ⟨wr.heap.size, 2, none⟩ = some (.string t) := hx3.cell 2
          have g3 : w3.cell? ⟨w.heap.size, 0, none⟩ = some (.slice A g.length cp) := hgx3.cell 0
          rw [hlk]
          have HO3 := Lib.hid hO3
          clear hb3 HO e0 e1 e2 g0 hO3
          rcases hk3 with rfl | rfl | rfl
          · have HT : Hid (tellB g (1, m, t) = accG g t) := by show _ = _; unfold tellB; simp
            generalize accG g t = y at HT ⊢
            go_wp2_with (at_builtin; refine wpList_append_own _ rfl _ _ _ rfl (w.heap.size + 1) 4 i0 _ 1 1 Tryz.underlying40 hi0 hz0 hz1 hz2 rfl (by decide) _ _ _ rfl (HO3.out.alloc _) ⟨w3.heap.size, 0, none⟩ 1 1 [.bool y] rfl rfl (new_cells w3 4 [.bool y]) (by simp [Value.oneCell']) (by unfold maxLen; omega) (by omega) (by simp; omega) ?_; intro v' w4 hown4 hgr4 _; obtain ⟨V4, c4, rfl⟩ := own_form hown4)
            have hw4 : Below w.heap.size w w4 := below_app (hw3.alloc hz3 _) (HO3.out.alloc _) hgr4 (by simp; omega) (by omega)
            have hgx4 := (hgx3.alloc (.cells #[.bool y] 4)).grown hgr4 (own_ne HO3.out (by omega))
            rw [tell_snoc HG.out HT.out] at hown4
            go_roundw
            case rel => exact ⟨j + 1, by omega, by go_num, hown4, hw4, hgx4⟩
            case measure => simp [intOf]; omega
          · have HT : Hid (tellB g (2, m, t) = (!accG g t)) := by show _ = _; unfold tellB; simp
            generalize accG g t = y at HT ⊢
            go_wp2_with (at_builtin; refine wpList_append_own _ rfl _ _ _ rfl (w.heap.size + 1) 4 i0 _ 1 1 Tryz.underlying40 hi0 hz0 hz1 hz2 rfl (by decide) _ _ _ rfl (HO3.out.alloc _) ⟨w3.heap.size, 0, none⟩ 1 1 [.bool (!y)] rfl rfl (new_cells w3 4 [.bool (!y)]) (by simp [Value.oneCell']) (by unfold maxLen; omega) (by omega) (by simp; omega) ?_; intro v' w4 hown4 hgr4 _; obtain ⟨V4, c4, rfl⟩ := own_form hown4)
            have hw4 : Below w.heap.size w w4 := below_app (hw3.alloc hz3 _) (HO3.out.alloc _) hgr4 (by simp; omega) (by omega)
            have hgx4 := (hgx3.alloc (.cells #[.bool (!y)] 4)).grown hgr4 (own_ne HO3.out (by omega))
            rw [tell_snoc HG.out HT.out] at hown4
            go_roundw
            case rel => exact ⟨j + 1, by omega, by go_num, hown4, hw4, hgx4⟩
            case measure => simp [intOf]; omega
          · have HT : Hid (tellB g (4, m, t) = ((outG g t).isSome && decide ((((outG g t).getD 0 : Nat) : Int) = m))) := by show _ = _; unfold tellB; simp
            go_wp2_with fail
            refine (HRN.out _ (by repeat (first | exact Below.refl _ _ | assumption | refine Below.drew ?_ | refine below_drewN ?_ _ | refine Below.alloc ?_ (by first | omega | (simp; omega) | simp) _ | refine Below.setCell ?_ (by first | omega | (simp; omega) | simp) _)) t).mono ?_
            rintro e w5 ⟨hb5, hq⟩
            rcases hq with ⟨hne, rfl⟩ | ⟨-, o, σ1, V5, lc, l', ⟨m5, hpk⟩, ha, ht5, hl5, rfl, ho5⟩
            · exact absurd hlk hne
            obtain ⟨h1, -⟩ := run_out hlk hpk
            rw [h1] at HT
            have hx5 := hx3.below hb5 hxl
            have hgx5 := hgx3.below hb5 hgl3
            have hO5 := own_below HO3.out hb5
            have hw5 := hw3.trans (hb5.mono hz3)
            have hz5 := hw5.size
            have hxl5 := hx5.lt
            have hgl5 := hgx5.lt
            have y0 : w5.cell? ⟨wr.heap.size, 0, none⟩ = some (.int .i64 4) := hx5.cell 0
            have y1 : w5.cell? ⟨wr.heap.size, 1, none⟩ = some (.int .i64 m) := hx5.cell 1
            have HO5 := Lib.hid hO5
            clear ha ht5 hl5 ho5 hpk h1 hb5 hO5 HO3 x0 x1 x2 g3
            rw [outV_eq]
            generalize σ1.log.length = ll
            cases o with
            | none =>
              replace HT : Hid (tellB g (4, m, t) = false) := HT.out
              have hnc : ∀ (u : Nat) (v : Value), [Value.bool false][u]? = some v → ((w5.alloc (.cells #[.bool false, .int .i64 0] 49)).alloc (.cells #[.bool false] 4)).cell? ((⟨w5.heap.size + 1, 0, none⟩ : Addr).add u) = some v := by
                have h1 := new_cells (w5.alloc (.cells #[.bool false, .int .i64 0] 49)) 4 [.bool false]
                rw [show (w5.alloc (.cells #[.bool false, .int .i64 0] 49)).heap.size = w5.heap.size + 1 by simp] at h1
                exact h1
              have HNC := Lib.hid hnc
              clear hnc
              go_wp2_with (at_builtin; refine wpList_append_own _ rfl _ _ _ rfl (w.heap.size + 1) 4 i0 _ 1 1 Tryz.underlying40 hi0 hz0 hz1 hz2 rfl (by decide) _ _ _ rfl ((HO5.out.alloc _).alloc _) ⟨w5.heap.size + 1, 0, none⟩ 1 1 [.bool false] rfl rfl HNC.out (by simp [Value.oneCell']) (by unfold maxLen; omega) (by omega) (by simp; omega) ?_; intro v' w6 hown6 hgr6 _; obtain ⟨V6, c6, rfl⟩ := own_form hown6)
              have hw6 : Below w.heap.size w w6 := below_app ((hw5.alloc hz5 _).alloc (by simp; omega) _) ((HO5.out.alloc _).alloc _) hgr6 (by simp; omega) (by omega)
              have hgx6 := ((hgx5.alloc (.cells #[.bool false, .int .i64 0] 49)).alloc (.cells #[.bool false] 4)).grown hgr6 (own_ne HO5.out (by omega))
              rw [tell_snoc HG.out HT.out] at hown6
              go_roundw
              case rel => exact ⟨j + 1, by omega, by go_num, hown6, hw6, hgx6⟩
              case measure => simp [intOf]; omega
            | some k =>
              replace HT : Hid (tellB g (4, m, t) = ((k : Int) == m)) := HT.out
              simp only [Option.isSome_some, Option.getD_some]
              have hnc : ∀ (u : Nat) (v : Value), [Value.bool ((k : Int) == m)][u]? = some v → ((w5.alloc (.cells #[.bool true, .int .i64 k] 49)).alloc (.cells #[.bool ((k : Int) == m)] 4)).cell? ((⟨w5.heap.size + 1, 0, none⟩ : Addr).add u) = some v := by
                have h1 := new_cells (w5.alloc (.cells #[.bool true, .int .i64 k] 49)) 4 [.bool ((k : Int) == m)]
                rw [show (w5.alloc (.cells #[.bool true, .int .i64 k] 49)).heap.size = w5.heap.size + 1 by simp] at h1
                exact h1
              have HNC := Lib.hid hnc
              clear hnc
              go_wp2_with (at_builtin; refine wpList_append_own _ rfl _ _ _ rfl (w.heap.size + 1) 4 i0 _ 1 1 Tryz.underlying40 hi0 hz0 hz1 hz2 rfl (by decide) _ _ _ rfl ((HO5.out.alloc _).alloc _) ⟨w5.heap.size + 1, 0, none⟩ 1 1 [.bool ((k : Int) == m)] rfl rfl HNC.out (by simp [Value.oneCell']) (by unfold maxLen; omega) (by omega) (by simp; omega) ?_; intro v' w6 hown6 hgr6 _; obtain ⟨V6, c6, rfl⟩ := own_form hown6)
              have hw6 : Below w.heap.size w w6 := below_app ((hw5.alloc hz5 _).alloc (by simp; omega) _) ((HO5.out.alloc _).alloc _) hgr6 (by simp; omega) (by omega)
              have hgx6 := ((hgx5.alloc (.cells #[.bool true, .int .i64 k] 49)).alloc (.cells #[.bool ((k : Int) == m)] 4)).grown hgr6 (own_ne HO5.out (by omega))
              rw [tell_snoc HG.out HT.out] at hown6
              go_roundw
              case rel => exact ⟨j + 1, by omega, by go_num, hown6, hw6, hgx6⟩
              case measure => simp [intOf]; omega
        · obtain rfl : j = n := by omega
          have hr := HO.out
          rw [List.take_of_length_le (by rw [HN.out]; omega)] at hr
          have hR := Reads.of_own hr
          have hform : l ≠ [] → l.length ≤ c2 ∧ ∃ F, V = some ⟨F, 0, none⟩ := fun hne => by
            have h1 := List.length_pos_iff.2 hne
            have h2 := HN.out
            rcases hr.2 with ⟨_, h0⟩ | ⟨g, cap, _, hv, _, _, hnc, _⟩
            · omega
            · simp only [Value.slice.injEq, true_and] at hv
              obtain ⟨rfl, rfl⟩ := hv
              exact ⟨by omega, g, rfl⟩
          have hq := (HBQ (.returned (.tuple #[.slice V j c2, .int .i64 0])) wr).out hwr ⟨V, c2, hform, rfl, hR⟩
          have HQ := Lib.hid hq
          clear hq hr hR HO hform
          go_wp2
          go_ret2
          exact HQ.out
    · have HBQ : ∀ e w', Hid (Below w.heap.size w w' → e = .returned (.tuple #[.slice none 0 0, .int .i64 (bchkC l)]) → BRunQ g l w e w') := fun e w' hb h => ⟨hb, .inr (.inl ⟨hw0, hc0, h⟩)⟩
      generalize bchkC l = y at hc0 HCK HBQ
      have hyb : (y != 0) = true := by rw [bne_iff_ne]; exact hc0
      clear hc0
      go_enter Tryz.func11, Tryz.ntmps11
      go_wp2_with fail
      refine (HW.out _ (by repeat (first | exact Below.refl _ _ | assumption | refine Below.drew ?_ | refine below_drewN ?_ _ | refine Below.alloc ?_ (by first | omega | (simp; omega) | simp) _ | refine Below.setCell ?_ (by first | omega | (simp; omega) | simp) _))).mono ?_
      unfold WellQ
      rintro e w1 ⟨rfl, hb1⟩
      have hw1 : Below w.heap.size w w1 := ((Below.refl _ w).alloc (Nat.le_refl _) _).trans (hb1.mono (by simp))
      clear hb1
      rw [hw0]
      generalize (wellG g).1 = x1
      go_wp2_with fail
      refine (HCK.out _ hw1).mono ?_
      rintro e w2 ⟨rfl, hb2⟩
      have hw2 := hw1.trans (hb2.mono hw1.size)
      clear hb2 hw1
      go_wp2
      go_ret2
      exact (HBQ _ _).out hw2 rfl
  · have HBQ : ∀ e w', Hid (Below w.heap.size w w' → e = .returned (.tuple #[.slice none 0 0, .int .i64 (wellG g).2]) → BRunQ g l w e w') := fun e w' hb h => ⟨hb, .inl ⟨hw0, h⟩⟩
    unfold WellQ at HW
    generalize (wellG g).1 = x1 at HW
    generalize (wellG g).2 = y at hw0 HW HBQ
    have hyb : (y != 0) = true := by rw [bne_iff_ne]; exact hw0
    clear hw0
    go_enter Tryz.func11, Tryz.ntmps11
    go_wp2_with fail
    refine (HW.out _ (by repeat (first | exact Below.refl _ _ | assumption | refine Below.drew ?_ | refine below_drewN ?_ _ | refine Below.alloc ?_ (by first | omega | (simp; omega) | simp) _ | refine Below.setCell ?_ (by first | omega | (simp; omega) | simp) _))).mono ?_
    rintro e w1 ⟨rfl, hb1⟩
    have hw1 : Below w.heap.size w w1 := ((Below.refl _ w).alloc (Nat.le_refl _) _).trans (hb1.mono (by simp))
    clear hb1
    go_wp2
    go_ret2
    exact (HBQ _ _).out hw1 rfl
end Go.Proofs.YtndhbdbfjkmloaaGreatDoor
namespace Go.Proofs.YtndhbdbfjkmloaaGreatDoor
open Go.RowKit

def hexI (n : Nat) : Int := Lib.indexByte hexs.data.toList (UInt8.ofNat n)
/-- the next byte of a text that is not at its end, and how many bytes say it -/
def nextN (sg l : List UInt8) : Nat × Nat :=
  if bt l 0 ≠ 92 then (if bt l 0 = 10 then (0, 0) else (bt l 0, 1))
  else if l.length < 2 then (0, 0)
  else if bt l 1 = 110 then (10, 2)
  else if bt l 1 = 116 then (9, 2)
  else if UInt8.ofNat (bt l 1) ∈ sg then (bt l 1, 2)
  else if bt l 1 = 120 ∧ 4 ≤ l.length then
    (if 0 ≤ hexI (bt l 2) ∧ 0 ≤ hexI (bt l 3) then ((hexI (bt l 2) * 16 + hexI (bt l 3)).toNat, 4) else (0, 0))
  else (0, 0)

theorem hexI_bd (n : Nat) : -1 ≤ hexI n ∧ hexI n < 16 := by
  refine ⟨Lib.indexByte_ge _ _, ?_⟩
  unfold hexI
  rcases Int.lt_or_le (Lib.indexByte hexs.data.toList (UInt8.ofNat n)) 0 with h | h
  · omega
  · have hm := index_mem.1 h
    obtain ⟨k, hk⟩ : ∃ k : Nat, Lib.indexByte hexs.data.toList (UInt8.ofNat n) = k := ⟨_, (Int.toNat_of_nonneg h).symm⟩
    have := getElem?_lt (Lib.indexByte_some hk).1
    rw [hk]
    have hl : hexs.data.toList.length = 16 := rfl
    omega

theorem shl_or (a b : Int) (ha : 0 ≤ a ∧ a < 16) (hb : 0 ≤ b ∧ b < 16) : bits .or .i64 (a * 16) b = a * 16 + b := by
  obtain ⟨n, rfl⟩ := Int.eq_ofNat_of_zero_le ha.1
  obtain ⟨m, rfl⟩ := Int.eq_ofNat_of_zero_le hb.1
  have h : ∀ n m : Fin 16, bits .or .i64 (((n : Nat) : Int) * 16) ((m : Nat) : Int) = ((n : Nat) : Int) * 16 + ((m : Nat) : Int) := by decide +kernel
  exact h ⟨n, by omega⟩ ⟨m, by omega⟩

/-- what quote.next leaves -/
def NextQ (sg l : List UInt8) (w : World) (e : Ending) (w' : World) : Prop :=
  e = .returned (.tuple #[.int .u8 (nextN sg l).1, .int .i64 (nextN sg l).2]) ∧ ∃ d, w' = w.drewN d

theorem nextQ_of {sg l : List UInt8} {w w' : World} {x y : Nat} (h : nextN sg l = (x, y)) (hd : ∃ d, w' = w.drewN d) : NextQ sg l w (.returned (.tuple #[.int .u8 x, .int .i64 y])) w' := ⟨by rw [h], hd⟩

theorem hex_any (c : Nat) (w : World) : Calls Tryz.prog 45 #[.string ⟨#[48, 49, 50, 51, 52, 53, 54, 55, 56, 57, 97, 98, 99, 100, 101, 102]⟩, .int .u8 c] w fun e w' => e = .returned (.int .i64 (hexI c)) ∧ w' = w :=
  (indexByte_any _ _ w).mono fun e w' ⟨h1, h2⟩ => ⟨by rw [h1]; unfold hexI hexs; simp, h2.symm⟩

set_option maxRecDepth 100000 in
theorem nextq_any (s sg : ByteArray) (w : World) (hs : 0 < s.size) :
    Calls Tryz.prog 51 #[.string s, .string sg] w (NextQ sg.data.toList s.data.toList w) := by
  have HL := Lib.hid (size_list s)
  have hb0 := bt_of hs
  generalize hc0 : bt s.data.toList 0 = c0 at hb0
  have hc0b : c0 < 256 := by rw [← hc0]; exact bt_lt _ _
  have HC0 := Lib.hid hc0
  clear hc0
  by_cases h92 : c0 = 92
  · by_cases h2 : s.size < 2
    · have HF : Hid (nextN sg.data.toList s.data.toList = (0, 0)) := by
        show _ = _
        unfold nextN; rw [HC0.out, if_neg (by omega), if_pos (by rw [HL.out]; exact h2)]
      subst h92
      go_enter Tryz.func51, Tryz.ntmps51
      go_wp2
      go_ret2
      exact nextQ_of HF.out ⟨0, rfl⟩
    · have hb1 := bt_of (show 1 < s.size by omega)
      generalize hc1 : bt s.data.toList 1 = c1 at hb1
      have hc1b : c1 < 256 := by rw [← hc1]; exact bt_lt _ _
      have HC1 := Lib.hid hc1
      clear hc1
      have hf : nextN sg.data.toList s.data.toList = (if c1 = 110 then (10, 2) else if c1 = 116 then (9, 2) else if UInt8.ofNat c1 ∈ sg.data.toList then (c1, 2) else if c1 = 120 ∧ 4 ≤ s.size then
          (if 0 ≤ hexI (bt s.data.toList 2) ∧ 0 ≤ hexI (bt s.data.toList 3) then ((hexI (bt s.data.toList 2) * 16 + hexI (bt s.data.toList 3)).toNat, 4) else (0, 0)) else (0, 0)) := by
        unfold nextN; rw [HC0.out, HC1.out, HL.out, if_neg (by omega), if_neg (by omega)]
      have HF := Lib.hid hf
      clear hf
      have h1s : (1 : Int) < (s.size : Int) := by omega
      subst h92
      by_cases h110 : c1 = 110
      · have HFF := Lib.hid (HF.out.trans (if_pos h110))
        subst h110
        go_enter Tryz.func51, Tryz.ntmps51
        go_wp2
        go_ret2
        exact nextQ_of HFF.out ⟨0, rfl⟩
      have b110 : ((c1 : Int) == 110) = false := by rw [beq_eq_false_iff_ne]; omega
      by_cases h116 : c1 = 116
      · have HFF := Lib.hid (HF.out.trans ((if_neg h110).trans (if_pos h116)))
        subst h116
        go_enter Tryz.func51, Tryz.ntmps51
        go_wp2
        go_ret2
        exact nextQ_of HFF.out ⟨0, rfl⟩
      have b116 : ((c1 : Int) == 116) = false := by rw [beq_eq_false_iff_ne]; omega
      have hto : ((c1 : Int)).toNat.toUInt8 = UInt8.ofNat c1 := by simp
      have HTO := Lib.hid hto
      clear hto
      by_cases hin : UInt8.ofNat c1 ∈ sg.data.toList
      · have HFF := Lib.hid (HF.out.trans ((if_neg h110).trans ((if_neg h116).trans (if_pos hin))))
        have hge : 0 ≤ Lib.indexByte sg.data.toList (UInt8.ofNat c1) := index_mem.2 hin
        clear hin
        go_enter Tryz.func51, Tryz.ntmps51
        go_wp2_with (go_at_call 45; refine (indexByte_any _ _ _).mono ?_; rw [HTO.out]; rintro e w' ⟨rfl, rfl⟩)
        go_ret2
        exact nextQ_of HFF.out ⟨0, rfl⟩
      · have hf2 := HF.out.trans ((if_neg h110).trans ((if_neg h116).trans (if_neg hin)))
        have HF2 := Lib.hid hf2
        have hlt : Lib.indexByte sg.data.toList (UInt8.ofNat c1) < 0 := by
          rcases Int.lt_or_le (Lib.indexByte sg.data.toList (UInt8.ofNat c1)) 0 with h | h
          · exact h
          · exact absurd (index_mem.1 h) hin
        clear hf2 hin h110 h116
        by_cases h120 : c1 = 120
        · by_cases h4 : 4 ≤ s.size
          · have hb2 := bt_of (show 2 < s.size by omega)
            have hb3 := bt_of (show 3 < s.size by omega)
            have HF3 := Lib.hid (HF2.out.trans (if_pos ⟨h120, h4⟩))
            generalize bt s.data.toList 2 = c2 at hb2 HF3
            generalize bt s.data.toList 3 = c3 at hb3 HF3
            obtain ⟨a1, a2⟩ := hexI_bd c2
            obtain ⟨d1, d2⟩ := hexI_bd c3
            subst h120
            have hlt' : Lib.indexByte sg.data.toList 120 < 0 := hlt
            have HT2 : Hid (((120 : Int)).toNat.toUInt8 = 120) := by show _ = _; decide
            clear hlt
            by_cases hA : 0 ≤ hexI c2
            · by_cases hB : 0 ≤ hexI c3
              · have HFF := Lib.hid (HF3.out.trans (if_pos ⟨hA, hB⟩))
                have hor := shl_or (hexI c2) (hexI c3) ⟨hA, a2⟩ ⟨hB, d2⟩
                have hto : ((hexI c2 * 16 + hexI c3).toNat : Int) = hexI c2 * 16 + hexI c3 := by omega
                have HTT := Lib.hid hto
                clear hto
                go_enter Tryz.func51, Tryz.ntmps51
                go_wp2_with (go_at_call 45; refine (indexByte_any _ _ _).mono ?_; rw [HT2.out]; rintro e w' ⟨rfl, rfl⟩)
                go_quiet ((go_at_call 45; exact Calls.quiet_of_same (hex_any _ _)))
                go_wp2
                go_ret2
                exact ⟨by rw [HFF.out, HTT.out]; rfl, _, rfl⟩
              · have HFF := Lib.hid (HF3.out.trans (if_neg (fun h => hB h.2)))
                go_enter Tryz.func51, Tryz.ntmps51
                go_wp2_with (go_at_call 45; refine (indexByte_any _ _ _).mono ?_; rw [HT2.out]; rintro e w' ⟨rfl, rfl⟩)
                go_quiet ((go_at_call 45; exact Calls.quiet_of_same (hex_any _ _)))
                go_wp2
                go_ret2
                exact nextQ_of HFF.out ⟨_, rfl⟩
            · have HFF := Lib.hid (HF3.out.trans (if_neg (fun h => hA h.1)))
              go_enter Tryz.func51, Tryz.ntmps51
              go_wp2_with (go_at_call 45; refine (indexByte_any _ _ _).mono ?_; rw [HT2.out]; rintro e w' ⟨rfl, rfl⟩)
              go_quiet ((go_at_call 45; exact Calls.quiet_of_same (hex_any _ _)))
              go_wp2
              go_ret2
              exact nextQ_of HFF.out ⟨_, rfl⟩
          · have HF3 := Lib.hid (HF2.out.trans (if_neg (fun h => h4 h.2)))
            subst h120
            have hlt' : Lib.indexByte sg.data.toList 120 < 0 := hlt
            have HT2 : Hid (((120 : Int)).toNat.toUInt8 = 120) := by show _ = _; decide
            clear hlt
            go_enter Tryz.func51, Tryz.ntmps51
            go_wp2_with (go_at_call 45; refine (indexByte_any _ _ _).mono ?_; rw [HT2.out]; rintro e w' ⟨rfl, rfl⟩)
            go_ret2
            exact nextQ_of HF3.out ⟨0, rfl⟩
        · have HF3 := Lib.hid (HF2.out.trans (if_neg (fun h => h120 h.1)))
          have b120 : ((c1 : Int) == 120) = false := by rw [beq_eq_false_iff_ne]; omega
          go_enter Tryz.func51, Tryz.ntmps51
          go_wp2_with (go_at_call 45; refine (indexByte_any _ _ _).mono ?_; rw [HTO.out]; rintro e w' ⟨rfl, rfl⟩)
          go_ret2
          exact nextQ_of HF3.out ⟨0, rfl⟩
  · have hf : nextN sg.data.toList s.data.toList = if c0 = 10 then (0, 0) else (c0, 1) := by unfold nextN; rw [HC0.out, if_pos h92]
    have HF := Lib.hid hf
    clear hf
    have b92 : ((c0 : Int) != 92) = true := by rw [bne_iff_ne]; omega
    by_cases h10 : c0 = 10
    · have HFF := Lib.hid (HF.out.trans (if_pos h10))
      subst h10
      go_enter Tryz.func51, Tryz.ntmps51
      go_wp2
      go_ret2
      exact nextQ_of HFF.out ⟨0, rfl⟩
    · have HFF := Lib.hid (HF.out.trans (if_neg h10))
      have b10 : ((c0 : Int) == 10) = false := by rw [beq_eq_false_iff_ne]; omega
      go_enter Tryz.func51, Tryz.ntmps51
      go_wp2
      go_ret2
      exact nextQ_of HFF.out ⟨0, rfl⟩
end Go.Proofs.YtndhbdbfjkmloaaGreatDoor
namespace Go.Proofs.YtndhbdbfjkmloaaGreatDoor
open Go.RowKit

def encAll (cls : Bool) : List UInt8 → List UInt8
  | [] => []
  | b :: l => enc cls b.toNat ++ encAll cls l
theorem encAll_snoc (cls : Bool) (b : UInt8) : ∀ l, encAll cls (l ++ [b]) = encAll cls l ++ enc cls b.toNat
  | [] => by simp [encAll]
  | c :: l => by
    show enc cls c.toNat ++ encAll cls (l ++ [b]) = _
    rw [encAll_snoc cls b l, encAll, List.append_assoc]
theorem enc_len (cls : Bool) (n : Nat) : (enc cls n).length ≤ 4 := by
  unfold enc
  split
  · simp
  · split
    · simp
    · split
      · simp
      · split <;> simp
theorem encAll_len (cls : Bool) : ∀ l, (encAll cls l).length ≤ 4 * l.length
  | [] => by simp [encAll]
  | b :: l => by
    have h1 := encAll_len cls l
    have h2 := enc_len cls b.toNat
    rw [encAll, List.length_append, List.length_cons]
    omega
/-- a literal as text -/
def litL (s : List UInt8) : List UInt8 := 39 :: (encAll false s ++ [39])

theorem app_data (a b : ByteArray) : (a ++ b).data.toList = a.data.toList ++ b.data.toList := by simp

theorem lit_any (s : ByteArray) (w : World) (hs : s.size ≤ 140737488351232) :
    Calls Tryz.prog 18 #[.string s] w fun e w' => (∃ u : ByteArray, e = .returned (.string u) ∧ u.data.toList = litL s.data.toList) ∧ Below w.heap.size w w' := by
  have HL := Lib.hid (size_list s)
  go_enter Tryz.func18, Tryz.ntmps18
  go_wp2_with fail
  go_loopw [3, 4, 7] (fun o _ i wr => ∃ (k : Nat) (u : ByteArray), k ≤ s.size ∧ i = .int .i64 k ∧ o = .string u ∧ u.data.toList = 39 :: encAll false (s.data.toList.take k) ∧ Below w.heap.size w wr) (fun _ _ i _ => s.size - (intOf i).toNat)
  case atStart => exact ⟨0, ⟨#[39]⟩, by omega, rfl, rfl, rfl, Below.refl _ _⟩
  case round =>
    obtain ⟨k, u, hk, rfl, rfl, hu, hbw⟩ := hrel
    have hub : u.size ≤ 562949953404929 := by
      have h1 := encAll_len false (s.data.toList.take k)
      have h2 : (s.data.toList.take k).length ≤ 140737488351232 := by rw [List.length_take, HL.out]; omega
      have h3 := size_list u
      rw [hu, List.length_cons] at h3
      omega
    have HU := Lib.hid hu
    clear hu
    by_cases hkn : k < s.size
    · have hg := get_byte hkn
      have HG := Lib.hid hg
      clear hg
      have hb := s[k].toNat_lt
      go_wp2_with fail
      refine (one_any false s[k].toNat hb _).mono ?_
      rintro e w1 ⟨rfl, hb1⟩
      have hw1 := hbw.trans (hb1.mono hbw.size)
      have he : (enc false s[k].toNat).toArray.size ≤ 4 := by have := enc_len false s[k].toNat; simpa using this
      have he' : (⟨(enc false s[k].toNat).toArray⟩ : ByteArray).size ≤ 4 := he
      generalize hE : (⟨(enc false s[k].toNat).toArray⟩ : ByteArray) = E at he' ⊢
      have HE := Lib.hid hE
      clear hE hb1 hb he
      go_wp2
      go_roundw
      case rel => exact ⟨k + 1, u ++ E, by omega, by go_num, rfl, by rw [app_data, HU.out, ← HE.out, take_succ_of HG.out, encAll_snoc]; simp, hw1⟩
      case measure => simp [intOf]; omega
    · obtain rfl : k = s.size := by omega
      go_wp2
      go_ret
      refine ⟨⟨_, rfl, ?_⟩, hbw⟩
      rw [app_data, HU.out, List.take_of_length_le (by rw [HL.out]; omega)]
      rfl
end Go.Proofs.YtndhbdbfjkmloaaGreatDoor
namespace Go.Proofs.YtndhbdbfjkmloaaGreatDoor
open Go.RowKit

theorem bt_app {e r : List UInt8} {k : Nat} (h : k < e.length) : bt (e ++ r) k = bt e k := by
  unfold bt; rw [List.getD_eq_getElem?_getD, List.getD_eq_getElem?_getD, List.getElem?_append_left h]
theorem nextN_app {sg e r : List UInt8} (h : (nextN sg e).2 ≠ 0) (he : e ≠ []) : nextN sg (e ++ r) = nextN sg e := by
  have h1 : 0 < e.length := by cases e with | nil => exact absurd rfl he | cons => simp
  have e0 := bt_app (r := r) h1
  by_cases h92 : bt e 0 = 92
  · have h2 : 2 ≤ e.length := by
      rcases Nat.lt_or_ge e.length 2 with h' | h'
      · exfalso; apply h; unfold nextN; rw [if_neg (by simpa using h92), if_pos h']
      · exact h'
    have e1 := bt_app (r := r) (show 1 < e.length by omega)
    have hl : ¬ (e ++ r).length < 2 := by rw [List.length_append]; omega
    have key : ∀ l : List UInt8, bt l 0 = 92 → 2 ≤ l.length → nextN sg l = (if bt l 1 = 110 then (10, 2) else if bt l 1 = 116 then (9, 2) else if UInt8.ofNat (bt l 1) ∈ sg then (bt l 1, 2)
        else if bt l 1 = 120 ∧ 4 ≤ l.length then (if 0 ≤ hexI (bt l 2) ∧ 0 ≤ hexI (bt l 3) then ((hexI (bt l 2) * 16 + hexI (bt l 3)).toNat, 4) else (0, 0)) else (0, 0)) := by
      intro l a b
      unfold nextN
      rw [if_neg (by simpa using a), if_neg (by omega)]
    rw [key e h92 h2] at h
    rw [key e h92 h2, key (e ++ r) (by rw [e0]; exact h92) (by omega), e1]
    by_cases a : bt e 1 = 110
    · rw [if_pos a, if_pos a]
    · rw [if_neg a] at h
      rw [if_neg a, if_neg a]
      by_cases b : bt e 1 = 116
      · rw [if_pos b, if_pos b]
      · rw [if_neg b] at h
        rw [if_neg b, if_neg b]
        by_cases c : UInt8.ofNat (bt e 1) ∈ sg
        · rw [if_pos c, if_pos c]
        · rw [if_neg c] at h
          rw [if_neg c, if_neg c]
          by_cases d : bt e 1 = 120 ∧ 4 ≤ e.length
          · have e2 := bt_app (r := r) (show 2 < e.length by omega)
            have e3 := bt_app (r := r) (show 3 < e.length by omega)
            rw [if_pos d, if_pos ⟨d.1, by rw [List.length_append]; omega⟩, e2, e3]
          · rw [if_neg d] at h
            exact absurd rfl h
  · unfold nextN
    rw [e0, if_pos h92, if_pos h92]
theorem nextN_bd (sg l : List UInt8) (hl : l ≠ []) : (nextN sg l).2 ≤ l.length ∧ (nextN sg l).1 < 256 ∧ (nextN sg l).2 ≤ 4 := by
  have h1 : 0 < l.length := by cases l with | nil => exact absurd rfl hl | cons => simp
  have b0 := bt_lt l 0
  have b1 := bt_lt l 1
  have a2 := hexI_bd (bt l 2)
  have a3 := hexI_bd (bt l 3)
  unfold nextN
  split
  · split
    · simp
    · exact ⟨by simp; omega, b0, by simp⟩
  · split
    · simp
    · split
      · exact ⟨by simp; omega, by simp, by simp⟩
      · split
        · exact ⟨by simp; omega, by simp, by simp⟩
        · split
          · exact ⟨by simp; omega, b1, by simp⟩
          · split
            · split
              · rename_i h _
                exact ⟨h.2, by simp only; omega, by simp⟩
              · simp
            · simp
end Go.Proofs.YtndhbdbfjkmloaaGreatDoor
