/- Expressions: what a text of cells says, and what expr.fit answers. Expressions in memory. What (*expr.looker).look, expr.Check and expr.Size answer. How many nodes an expression has, and that expr.Size says so of a right one; plain. How the arguments of a law are opened: what a reading of a slice of ints gives the walk. Plain laws of words of 64 bits. How a set that came in is opened: four words of 64 bits. How an expression that came in is opened. Grammars in memory; a kid, a rule, with all its cells. How a grammar that came in is opened. Expressions as text, and how a text is read as one: plain. -/
import Derived.Test.YtndhbdbfjkmloaaDoorJReadLeast1
import Derived.Test.YtndhbdbfjkmloaaDoorJReadLeast0
import Derived.ProofKit
import Derived.OpenShut
import Derived.ShutString
import Derived.ChangeOld
import Derived.SizedLaws
import Derived.Lib.Join
namespace Go.Proofs.YtndhbdbfjkmloaaDoor
open Go.RowKit

/-- how many kids a kind of node may have -/
def lims (k : Int) (t : List UInt8) : Option (Nat × Nat) :=
  if k = 1 ∨ k = 2 then some (0, 0)
  else if k = 3 then (if t ≠ [] ∧ t.length ≤ 12 then some (0, 0) else none)
  else if k = 4 then (if nameB t = true then some (0, 0) else none)
  else if k = 5 ∨ k = 6 then some (2, 8)
  else if 7 ≤ k ∧ k ≤ 11 then some (1, 1)
  else none
def fitB (k a b c d : Int) (t : List UInt8) (n : Nat) : Bool :=
  match lims k t with
  | none => false
  | some (lo, hi) => (decide (k = 3 ∨ k = 4) || decide (t = [])) && (decide (k = 2) || (a == 0 && (b == 0 && (c == 0 && d == 0)))) && decide (lo ≤ n) && decide (n ≤ hi)

/-- an expression's cells -/
def exCells (k a b c d : Int) (t : ByteArray) (A : Option Addr) (n cp : Nat) : List Value := [.int .i64 k, .int .u64 a, .int .u64 b, .int .u64 c, .int .u64 d, .string t, .slice A n cp]

set_option linter.unusedSimpArgs false in
set_option maxHeartbeats 8000000 in
set_option maxRecDepth 100000 in
theorem fit_any (k a b c d : Int) (t : ByteArray) (A : Option Addr) (n cp : Nat) (w : World) :
    Calls Tryd.prog 65 #[.agg #[.int .i64 k, .int .u64 a, .int .u64 b, .int .u64 c, .int .u64 d, .string t, .slice A n cp]] w fun e w' => e = .returned (.bool (fitB k a b c d t.data.toList n)) ∧ Below w.heap.size w w' := by
  have HL := Lib.hid (size_list t)
  have hq := fun w => run_same_set w a b c d 0 0 0 0
  generalize hz : (a == 0 && (b == 0 && (c == 0 && d == 0))) = z at hq
  have HF : Hid (fitB k a b c d t.data.toList n = match lims k t.data.toList with
    | none => false
    | some (lo, hi) => (decide (k = 3 ∨ k = 4) || decide (t.data.toList = [])) && (decide (k = 2) || z) && decide (lo ≤ n) && decide (n ≤ hi)) := by show _ = _; rw [← hz]; rfl
  clear hz
  by_cases h12 : k ∈ [1, 2, 5, 6, 7, 8, 9, 10, 11]
  · simp only [List.mem_cons, List.not_mem_nil, or_false] at h12
    by_cases ht : t.size = 0
    · have he : t.toList = [] := by rw [ByteArray.toList_eq]; exact List.eq_nil_of_length_eq_zero (by rw [HL.out]; exact ht)
      have he' : (!t.toList.isEmpty) = false := by rw [he]; rfl
      have hd : t.data.toList = [] := List.eq_nil_of_length_eq_zero (by rw [HL.out]; exact ht)
      rw [hd] at HF ⊢
      clear he hd
      by_cases hz : k = 2 ∨ z = true
      · by_cases hlo : (if k = 1 ∨ k = 2 then 0 else if k = 5 ∨ k = 6 then 2 else 1) ≤ n
        · rcases h12 with rfl | rfl | rfl | rfl | rfl | rfl | rfl | rfl | rfl <;> simp at hlo hz
          all_goals
            try subst hz
            try subst hlo
            go_enter Tryd.func65, Tryd.ntmps65
            go_wp2
            go_ret
            refine ⟨ret_bool ?_, (by repeat (first | exact Below.refl _ _ | assumption | refine Below.drew ?_ | refine below_drewN ?_ _ | refine Below.alloc ?_ (by first | omega | (simp; omega) | simp) _ | refine Below.setCell ?_ (by first | omega | (simp; omega) | simp) _))⟩
            first | exact HF.out.symm | (rw [HF.out]; simp only [lims, Int.reduceEq, Int.reduceLE, or_false, false_or, or_true, true_or, if_true, if_false, and_self, and_true, true_and]; first | (simp [*]; done) | (simp [*]; omega))
        · rcases h12 with rfl | rfl | rfl | rfl | rfl | rfl | rfl | rfl | rfl <;> simp at hlo hz
          all_goals
            try subst hz
            try subst hlo
            go_enter Tryd.func65, Tryd.ntmps65
            go_wp2
            go_ret
            refine ⟨ret_bool ?_, (by repeat (first | exact Below.refl _ _ | assumption | refine Below.drew ?_ | refine below_drewN ?_ _ | refine Below.alloc ?_ (by first | omega | (simp; omega) | simp) _ | refine Below.setCell ?_ (by first | omega | (simp; omega) | simp) _))⟩
            first | exact HF.out.symm | (rw [HF.out]; simp only [lims, Int.reduceEq, Int.reduceLE, or_false, false_or, or_true, true_or, if_true, if_false, and_self, and_true, true_and]; first | (simp [*]; done) | (simp [*]; omega))
      · obtain rfl : z = false := by cases z <;> simp_all
        rcases h12 with rfl | rfl | rfl | rfl | rfl | rfl | rfl | rfl | rfl <;> simp at hz
        all_goals
          go_enter Tryd.func65, Tryd.ntmps65
          go_wp2
          go_ret
          refine ⟨ret_bool ?_, (by repeat (first | exact Below.refl _ _ | assumption | refine Below.drew ?_ | refine below_drewN ?_ _ | refine Below.alloc ?_ (by first | omega | (simp; omega) | simp) _ | refine Below.setCell ?_ (by first | omega | (simp; omega) | simp) _))⟩
          first | exact HF.out.symm | (rw [HF.out]; simp only [lims, Int.reduceEq, Int.reduceLE, or_false, false_or, or_true, true_or, if_true, if_false, and_self, and_true, true_and]; first | (simp [*]; done) | (simp [*]; omega))
    · have hd : t.data.toList ≠ [] := fun h => ht (by rw [← HL.out, h]; rfl)
      have he : t.toList.isEmpty = false := by rw [ByteArray.toList_eq]; cases h : t.data.toList with
        | nil => exact absurd h hd
        | cons _ _ => rfl
      rcases h12 with rfl | rfl | rfl | rfl | rfl | rfl | rfl | rfl | rfl
      all_goals
        go_enter Tryd.func65, Tryd.ntmps65
        go_wp2
        go_ret
        refine ⟨ret_bool ?_, (by repeat (first | exact Below.refl _ _ | assumption | refine Below.drew ?_ | refine below_drewN ?_ _ | refine Below.alloc ?_ (by first | omega | (simp; omega) | simp) _ | refine Below.setCell ?_ (by first | omega | (simp; omega) | simp) _))⟩
        first | exact HF.out.symm | (rw [HF.out]; simp only [lims, Int.reduceEq, Int.reduceLE, or_false, false_or, or_true, true_or, if_true, if_false, and_self, and_true, true_and]; first | (simp [*]; done) | (simp [*]; omega))
  · simp only [List.mem_cons, List.not_mem_nil, or_false] at h12
    by_cases h3 : k = 3
    · subst h3
      by_cases ht : t.size = 0
      · have he : t.toList = [] := by rw [ByteArray.toList_eq]; exact List.eq_nil_of_length_eq_zero (by rw [HL.out]; exact ht)
        have he' : (!t.toList.isEmpty) = false := by rw [he]; rfl
        have hd : t.data.toList = [] := List.eq_nil_of_length_eq_zero (by rw [HL.out]; exact ht)
        rw [hd] at HF ⊢
        clear hd h12
        rw [show lims 3 [] = none from rfl] at HF
        go_enter Tryd.func65, Tryd.ntmps65
        go_wp2
        go_ret
        refine ⟨ret_bool ?_, (by repeat (first | exact Below.refl _ _ | assumption | refine Below.drew ?_ | refine below_drewN ?_ _ | refine Below.alloc ?_ (by first | omega | (simp; omega) | simp) _ | refine Below.setCell ?_ (by first | omega | (simp; omega) | simp) _))⟩
        first | exact HF.out.symm | (rw [HF.out]; simp only [lims, Int.reduceEq, Int.reduceLE, or_false, false_or, or_true, true_or, if_true, if_false, and_self, and_true, true_and]; first | (simp [*]; done) | (simp [*]; omega))
      · have hd : t.data.toList ≠ [] := fun h => ht (by rw [← HL.out, h]; rfl)
        have he : t.toList.isEmpty = false := by rw [ByteArray.toList_eq]; cases h : t.data.toList with
          | nil => exact absurd h hd
          | cons _ _ => rfl
        have hl : t.data.toList.length = t.size := HL.out
        by_cases h12' : 12 < t.size
        · clear h12
          rw [show lims 3 t.data.toList = none by unfold lims; rw [hl]; simp; omega] at HF
          go_enter Tryd.func65, Tryd.ntmps65
          go_wp2
          go_ret
          refine ⟨ret_bool ?_, (by repeat (first | exact Below.refl _ _ | assumption | refine Below.drew ?_ | refine below_drewN ?_ _ | refine Below.alloc ?_ (by first | omega | (simp; omega) | simp) _ | refine Below.setCell ?_ (by first | omega | (simp; omega) | simp) _))⟩
          first | exact HF.out.symm | (rw [HF.out]; simp only [lims, Int.reduceEq, Int.reduceLE, or_false, false_or, or_true, true_or, if_true, if_false, and_self, and_true, true_and]; first | (simp [*]; done) | (simp [*]; omega))
        · have hle : t.size ≤ 12 := by omega
          clear h12
          rw [show lims 3 t.data.toList = some (0, 0) by unfold lims; rw [hl]; simp; exact ⟨by simpa using hd, hle⟩] at HF
          cases z
          all_goals
            go_enter Tryd.func65, Tryd.ntmps65
            go_wp2
            go_ret
            refine ⟨ret_bool ?_, (by repeat (first | exact Below.refl _ _ | assumption | refine Below.drew ?_ | refine below_drewN ?_ _ | refine Below.alloc ?_ (by first | omega | (simp; omega) | simp) _ | refine Below.setCell ?_ (by first | omega | (simp; omega) | simp) _))⟩
            first | exact HF.out.symm | (rw [HF.out]; simp only [lims, Int.reduceEq, Int.reduceLE, or_false, false_or, or_true, true_or, if_true, if_false, and_self, and_true, true_and]; first | (simp [*]; done) | (simp [*]; omega))
    · by_cases h4 : k = 4
      · subst h4
        clear h12 h3
        cases hn : nameB t.data.toList
        · go_enter Tryd.func65, Tryd.ntmps65
          go_wp2_with (go_at_call 33; refine (name_any _ _).mono ?_; rintro e w' ⟨rfl, rfl⟩)
          go_ret
          refine ⟨ret_bool ?_, (by repeat (first | exact Below.refl _ _ | assumption | refine Below.drew ?_ | refine below_drewN ?_ _ | refine Below.alloc ?_ (by first | omega | (simp; omega) | simp) _ | refine Below.setCell ?_ (by first | omega | (simp; omega) | simp) _))⟩
          first | exact HF.out.symm | (rw [HF.out]; simp only [lims, Int.reduceEq, Int.reduceLE, or_false, false_or, or_true, true_or, if_true, if_false, and_self, and_true, true_and]; first | (simp [*]; done) | (simp [*]; omega))
        · cases z
          all_goals
            go_enter Tryd.func65, Tryd.ntmps65
            go_wp2_with (go_at_call 33; refine (name_any _ _).mono ?_; rintro e w' ⟨rfl, rfl⟩)
            go_ret
            refine ⟨ret_bool ?_, (by repeat (first | exact Below.refl _ _ | assumption | refine Below.drew ?_ | refine below_drewN ?_ _ | refine Below.alloc ?_ (by first | omega | (simp; omega) | simp) _ | refine Below.setCell ?_ (by first | omega | (simp; omega) | simp) _))⟩
            first | exact HF.out.symm | (rw [HF.out]; simp only [lims, Int.reduceEq, Int.reduceLE, or_false, false_or, or_true, true_or, if_true, if_false, and_self, and_true, true_and]; first | (simp [*]; done) | (simp [*]; omega))
      · have hl : lims k t.data.toList = none := by
          unfold lims
          rw [if_neg (by omega), if_neg h3, if_neg h4, if_neg (by omega), if_neg (by omega)]
        rw [hl] at HF
        clear hl
        simp only [not_or] at h12
        obtain ⟨k1, k2, k5, k6, k7, k8, k9, k10, k11⟩ := h12
        go_enter Tryd.func65, Tryd.ntmps65
        go_wp2
        go_ret
        exact ⟨ret_bool HF.out.symm, (by repeat (first | exact Below.refl _ _ | assumption | refine Below.drew ?_ | refine below_drewN ?_ _ | refine Below.alloc ?_ (by first | omega | (simp; omega) | simp) _ | refine Below.setCell ?_ (by first | omega | (simp; omega) | simp) _))⟩
end Go.Proofs.YtndhbdbfjkmloaaDoor
namespace Go.Proofs.YtndhbdbfjkmloaaDoor
open Go.RowKit

/-- an expression: kind, the four words of its set, its text, its kids -/
inductive Ex where
  | mk (k a b c d : Int) (t : ByteArray) (ks : List Ex)

theorem Ex.ind {P : Ex → Prop} (h : ∀ k a b c d t ks, (∀ e ∈ ks, P e) → P (.mk k a b c d t ks)) (e : Ex) : P e := by
  refine Ex.rec (motive_1 := P) (motive_2 := fun ks => ∀ e ∈ ks, P e) ?_ ?_ ?_ e
  · exact fun k a b c d t ks ih => h k a b c d t ks ih
  · exact fun e he => by cases he
  · intro e es h1 h2 e' he
    rcases List.mem_cons.1 he with rfl | he
    · exact h1
    · exact h2 _ he

/-- the cells of an expression, and that all below it can be read below block B -/
inductive ExIs (w : World) (B : Nat) : Ex → List Value → Prop
  | mk (k a b c d : Int) (t : ByteArray) (ks : List Ex) (A : Option Addr) (cp : Nat) (row : Nat → List Value) :
      t.size ≤ maxLen → ks.length ≤ cp → cp ≤ maxLen → (A = none → cp = 0) → (0 < ks.length → ∃ ad : Addr, A = some ad ∧ ad.block < B) →
      (∀ i e, ks[i]? = some e → ExIs w B e (row i)) →
      (∀ i e ad, ks[i]? = some e → A = some ad → ∀ j u, (row i)[j]? = some u → w.cell? ((ad.add (i * 7)).add j) = some u) →
      ExIs w B (.mk k a b c d t ks) [.int .i64 k, .int .u64 a, .int .u64 b, .int .u64 c, .int .u64 d, .string t, .slice A ks.length cp]

theorem ExIs.keep {w w' : World} {B B' : Nat} {e : Ex} {cs : List Value} (h : ExIs w B e cs) (hB : B ≤ B') (hk : ∀ p : Addr, p.block < B → w'.cell? p = w.cell? p) : ExIs w' B' e cs := by
  induction h with
  | mk k a b c d t ks A cp row ht hl hm hn hb hr hc ih =>
    refine .mk k a b c d t ks A cp row ht hl hm hn (fun h0 => ?_) ih fun i e ad he hA j u hu => ?_
    · obtain ⟨ad, e, h1⟩ := hb h0
      exact ⟨ad, e, Nat.lt_of_lt_of_le h1 hB⟩
    · obtain ⟨ad', e', h1⟩ := hb (by have := getElem?_lt he; omega)
      rw [hA] at e'
      injection e' with e'
      subst e'
      rw [hk _ (by rw [add_block, add_block]; exact h1)]
      exact hc i e ad he hA j u hu
theorem ExIs.on {w w' : World} {B : Nat} {e : Ex} {cs : List Value} (h : ExIs w B e cs) (hb : Below B w w') : ExIs w' B e cs := h.keep (Nat.le_refl _) fun _ => hb.cell
end Go.Proofs.YtndhbdbfjkmloaaDoor
namespace Go.Proofs.YtndhbdbfjkmloaaDoor
open Go.RowKit

mutual
/-- how a looker that has counted n goes through a node at this depth: what went wrong, and what it has counted then -/
def lookN : Ex → Nat → Nat → Int × Nat
  | .mk k a b c d t ks, n, deep =>
    if 60 < n + 1 then (2, n + 1) else if 12 < deep then (5, n + 1) else if fitB k a b c d t.data.toList ks.length = false then (3, n + 1) else looks ks (n + 1) (deep + 1)
def looks : List Ex → Nat → Nat → Int × Nat
  | [], n, _ => (0, n)
  | e :: es, n, deep => if (lookN e n deep).1 = 0 then looks es (lookN e n deep).2 deep else lookN e n deep
end

theorem fit_len {k a b c d : Int} {t : List UInt8} {n : Nat} (h : fitB k a b c d t n = true) : n ≤ 8 := by
  unfold fitB at h
  split at h
  · cases h
  · rename_i lo hi hl
    have h2 : n ≤ hi := by
      simp only [Bool.and_eq_true, decide_eq_true_eq] at h
      exact h.2
    have h3 : hi ≤ 8 := by
      unfold lims at hl
      repeat' split at hl
      all_goals (first | cases hl | skip) <;> omega
    omega
theorem looks_le : ∀ (ks : List Ex) (n deep : Nat), (∀ e ∈ ks, ∀ n deep, n ≤ 60 → (lookN e n deep).2 ≤ 61 ∧ ((lookN e n deep).1 = 0 → (lookN e n deep).2 ≤ 60)) → n ≤ 60 → (looks ks n deep).2 ≤ 61 ∧ ((looks ks n deep).1 = 0 → (looks ks n deep).2 ≤ 60)
  | [], n, deep, _, hn => by simp [looks]; omega
  | e :: es, n, deep, h, hn => by
    have h1 := h e (by simp) n deep hn
    unfold looks
    split
    · rename_i h0
      exact looks_le es _ deep (fun e' he' => h e' (by simp [he'])) (h1.2 h0)
    · exact h1
theorem lookN_le (e : Ex) : ∀ n deep, n ≤ 60 → (lookN e n deep).2 ≤ 61 ∧ ((lookN e n deep).1 = 0 → (lookN e n deep).2 ≤ 60) := by
  refine Ex.ind (P := fun e => ∀ n deep, n ≤ 60 → (lookN e n deep).2 ≤ 61 ∧ ((lookN e n deep).1 = 0 → (lookN e n deep).2 ≤ 60)) ?_ e
  intro k a b c d t ks ih n deep hn
  unfold lookN
  split
  · exact ⟨by simp; omega, fun h => by simp at h⟩
  · split
    · exact ⟨by simp; omega, fun h => by simp at h⟩
    · split
      · exact ⟨by simp; omega, fun h => by simp at h⟩
      · exact looks_le ks _ _ ih (by omega)

/-- what look leaves -/
def LookQ (g : Nat) (r : Int × Nat) (w : World) (e : Ending) (w' : World) : Prop :=
  e = .returned (.int .i64 r.1) ∧ Blk w' g 68 #[.int .i64 r.2] ∧ w.grownBy w' (some g)

theorem grown_cells {w w' : World} {g : Nat} (h : w.grownBy w' (some g)) {B : Nat} (hB : B ≤ g) (hg : g < w.heap.size) (p : Addr) (hp : p.block < B) : w'.cell? p = w.cell? p :=
  World.cell?_of_block (h.block p.block (by omega) fun e => by injection e with e; omega)

theorem grown_set {a w : World} {g i : Nat} (h : a.grownBy w (some g)) (u : Value) : a.grownBy (w.setCell ⟨g, i, none⟩ u) (some g) :=
  ⟨h.os, h.tape, h.output, by simpa [World.setCell] using h.size, fun k hk hne => (Below.heap_setCell w ⟨g, i, none⟩ u k (by rintro rfl; exact hne rfl)).trans (h.block k hk hne)⟩
theorem grown_alloc {a w : World} {r : Option Nat} (h : a.grownBy w r) (o : Obj) : a.grownBy (w.alloc o) r :=
  ⟨h.os, h.tape, h.output, by have := h.size; simp; omega, fun k hk hne => (Below.heap_alloc w o k (Nat.lt_of_lt_of_le hk h.size)).trans (h.block k hk hne)⟩
theorem grown_below {a w w' : World} {r : Option Nat} (h : a.grownBy w r) (hb : Below w.heap.size w w') : a.grownBy w' r :=
  ⟨hb.os.trans h.os, hb.tape.trans h.tape, hb.output.trans h.output, Nat.le_trans h.size hb.size, fun k hk hne => (hb.block k (Nat.lt_of_lt_of_le hk h.size)).trans (h.block k hk hne)⟩
theorem grown_trans {a w w' : World} {r : Option Nat} (h : a.grownBy w r) (h' : w.grownBy w' r) : a.grownBy w' r :=
  ⟨h'.os.trans h.os, h'.tape.trans h.tape, h'.output.trans h.output, Nat.le_trans h.size h'.size, fun k hk hne => (h'.block k (Nat.lt_of_lt_of_le hk h.size) hne).trans (h.block k hk hne)⟩

set_option maxRecDepth 100000 in
theorem look_any (e : Ex) : ∀ (cs : List Value) (w : World) (g n deep B : Nat), ExIs w B e cs → B ≤ g → Blk w g 68 #[.int .i64 n] → n ≤ 60 → deep ≤ 13 →
    Calls Tryd.prog 31 #[.pointer (some ⟨g, 0, none⟩), .agg cs.toArray, .int .i64 deep] w (LookQ g (lookN e n deep) w) := by
  refine Ex.ind (P := fun e => ∀ (cs : List Value) (w : World) (g n deep B : Nat), ExIs w B e cs → B ≤ g → Blk w g 68 #[.int .i64 n] → n ≤ 60 → deep ≤ 13 →
    Calls Tryd.prog 31 #[.pointer (some ⟨g, 0, none⟩), .agg cs.toArray, .int .i64 deep] w (LookQ g (lookN e n deep) w)) ?_ e
  intro k a b c d t ks ih cs w g n deep B he hB hg hn hd
  cases he with
  | mk _ _ _ _ _ _ _ A cp row ht hl hm hnone hb hr hc =>
  have IH := Lib.hid ih
  have HRow := Lib.hid hr
  have HC := Lib.hid hc
  have HBk := Lib.hid hb
  have hgl := hg.lt
  have hc0 : w.cell? ⟨g, 0, none⟩ = some (.int .i64 n) := hg.cell 0
  have hf0 := hg.frozen 0
  clear ih hr hc hb hnone
  have HF : Hid (lookN (.mk k a b c d t ks) n deep = if 60 < n + 1 then (2, n + 1) else if 12 < deep then (5, n + 1) else if fitB k a b c d t.data.toList ks.length = false then (3, n + 1) else looks ks (n + 1) (deep + 1)) := by
    show _ = _
    rw [lookN]
  by_cases h60 : 60 < n + 1
  · have HFF : Hid (lookN (.mk k a b c d t ks) n deep = (2, n + 1)) := HF.out.trans (if_pos h60)
    go_enter Tryd.func31, Tryd.ntmps31
    go_wp2
    go_ret
    exact ⟨by rw [HFF.out]; rfl, (by rw [HFF.out]; exact (hg.set_ 0 _).alloc _), (by first | exact grown_alloc (grown_set (World.grownBy.refl _ _) _) _)⟩
  by_cases h12 : 12 < deep
  · have HFF : Hid (lookN (.mk k a b c d t ks) n deep = (5, n + 1)) := HF.out.trans ((if_neg h60).trans (if_pos h12))
    go_enter Tryd.func31, Tryd.ntmps31
    go_wp2
    go_ret
    exact ⟨by rw [HFF.out]; rfl, (by rw [HFF.out]; exact (hg.set_ 0 _).alloc _), (by first | exact grown_alloc (grown_set (World.grownBy.refl _ _) _) _)⟩
  cases hfit : fitB k a b c d t.data.toList ks.length
  · have HFF : Hid (lookN (.mk k a b c d t ks) n deep = (3, n + 1)) := HF.out.trans ((if_neg h60).trans ((if_neg h12).trans (if_pos hfit)))
    have HFit := Lib.hid hfit
    clear hfit
    go_enter Tryd.func31, Tryd.ntmps31
    go_wp2_with fail
    refine (fit_any k a b c d t A ks.length cp _).mono ?_
    rw [HFit.out]
    rintro e w1 ⟨rfl, hb1⟩
    have hg1 : Blk w1 g 68 #[.int .i64 ((n : Int) + 1)] := ((hg.set_ 0 _).alloc _).below hb1 (by simp; omega)
    have hw1 : w.grownBy w1 (some g) := grown_below (grown_alloc (grown_set (World.grownBy.refl _ _) _) _) hb1
    clear hb1
    go_wp2
    go_ret
    exact ⟨by rw [HFF.out]; rfl, (by rw [HFF.out]; exact hg1), hw1⟩
  have h8 := fit_len hfit
  have HFF : Hid (lookN (.mk k a b c d t ks) n deep = looks ks (n + 1) (deep + 1)) := HF.out.trans ((if_neg h60).trans ((if_neg h12).trans (if_neg (by rw [hfit]; decide))))
  have HFit := Lib.hid hfit
  clear hfit
  go_enter Tryd.func31, Tryd.ntmps31
  go_wp2_with fail
  refine (fit_any k a b c d t A ks.length cp _).mono ?_
  rw [HFit.out]
  rintro e w1 ⟨rfl, hb1⟩
  have hg1 : Blk w1 g 68 #[.int .i64 ((n : Int) + 1)] := ((hg.set_ 0 _).alloc _).below hb1 (by simp; omega)
  have hw1 : w.grownBy w1 (some g) := grown_below (grown_alloc (grown_set (World.grownBy.refl _ _) _) _) hb1
  have hx6 : w1.cell? ⟨w.heap.size, 6, none⟩ = some (.slice A ks.length cp) := by
    rw [hb1.cell (p := ⟨w.heap.size, 6, none⟩) (by simp)]
    exact (blk_at (by simp)).cell 6
  clear hb1 HFit
  go_wp2
  go_loopw [8, 9, 33] (fun _ _ i wr => ∃ j m : Nat, j ≤ ks.length ∧ m ≤ 60 ∧ i = .int .i64 j ∧ Hid (lookN (.mk k a b c d t ks) n deep = looks (ks.drop j) m (deep + 1)) ∧ Blk wr g 68 #[.int .i64 m] ∧ w.grownBy wr (some g)) (fun _ _ i _ => ks.length - (intOf i).toNat)
  case atStart => exact ⟨0, n + 1, by omega, by omega, rfl, HFF, hg1, hw1⟩
  case round =>
    obtain ⟨j, m, hj, hm60, rfl, HR, hgr, hwr⟩ := hrel
    by_cases hjk : j < ks.length
    · have hej : ks[j]? = some ks[j] := List.getElem?_eq_getElem hjk
      generalize ks[j] = ej at hej
      obtain ⟨ad, rfl, hab⟩ := HBk.out (by omega)
      have hgrl := hgr.lt
      have hej2 := (HRow.out j ej hej).keep (Nat.le_refl _) (fun p hp => grown_cells hwr hB hgl p hp)
      have hcj := HC.out j ej ad hej rfl
      have hmem := List.mem_of_getElem? hej
      have HD : Hid (ks.drop j = ej :: ks.drop (j + 1)) := by
        show _ = _
        rw [List.drop_eq_getElem_cons hjk]
        rw [List.getElem?_eq_getElem hjk] at hej
        injection hej with hej
        rw [hej]
      generalize row j = rj at hej2 hcj
      cases ej with
      | mk k' a' b' c' d' t' ks' =>
      have hej3 := hej2
      cases hej2 with
      | mk _ _ _ _ _ _ _ A' cp' row' ht' hl' hm' hnone' hb' hr' hc' =>
      have e0 : wr.cell? (ad.add (j * 7)) = some (.int .i64 k') := by
        rw [grown_cells hwr hB hgl _ (by rw [add_block]; exact hab)]
        exact hcj 0 _ rfl
      have hcc : ∀ i u, [Value.int .i64 k', .int .u64 a', .int .u64 b', .int .u64 c', .int .u64 d', .string t', .slice A' ks'.length cp'][i]? = some u → wr.cell? ((ad.add (j * 7)).add i) = some u := by
        intro i u hu
        rw [grown_cells hwr hB hgl _ (by rw [add_block, add_block]; exact hab)]
        exact hcj i u hu
      have e1 : wr.cell? ⟨(ad.add (j * 7)).block, (ad.add (j * 7)).off + 1, none⟩ = some (.int .u64 a') := hcc 1 _ rfl
      have e2 : wr.cell? ⟨(ad.add (j * 7)).block, (ad.add (j * 7)).off + 2, none⟩ = some (.int .u64 b') := hcc 2 _ rfl
      have e3 : wr.cell? ⟨(ad.add (j * 7)).block, (ad.add (j * 7)).off + 3, none⟩ = some (.int .u64 c') := hcc 3 _ rfl
      have e4 : wr.cell? ⟨(ad.add (j * 7)).block, (ad.add (j * 7)).off + 4, none⟩ = some (.int .u64 d') := hcc 4 _ rfl
      have e5 : wr.cell? ⟨(ad.add (j * 7)).block, (ad.add (j * 7)).off + 5, none⟩ = some (.string t') := hcc 5 _ rfl
      have e6 : wr.cell? ⟨(ad.add (j * 7)).block, (ad.add (j * 7)).off + 6, none⟩ = some (.slice A' ks'.length cp') := hcc 6 _ rfl
      clear hcc hcj hej hr' hc' hb' hnone'
      have hle := lookN_le (.mk k' a' b' c' d' t' ks') m (deep + 1) hm60
      generalize hx : lookN (.mk k' a' b' c' d' t' ks') m (deep + 1) = r at hle
      obtain ⟨x, m2⟩ := r
      have HX := Lib.hid hx
      clear hx
      have hcall : ∀ o : Obj, Calls Tryd.prog 31 #[.pointer (some ⟨g, 0, none⟩), .agg #[.int .i64 k', .int .u64 a', .int .u64 b', .int .u64 c', .int .u64 d', .string t', .slice A' ks'.length cp'], .int .i64 ((deep : Int) + 1)] (wr.alloc o) (LookQ g (x, m2) (wr.alloc o)) := fun o => by
        have h := IH.out _ hmem _ (wr.alloc o) g m (deep + 1) B (hej3.keep (Nat.le_refl _) (fun p hp => World.cell?_alloc_lt _ _ _ (by omega))) hB (hgr.alloc _) hm60 (by omega)
        rw [HX.out] at h
        exact h
      have HCall := Lib.hid hcall
      clear hcall hej3
      go_wp2_with fail
      refine (HCall.out _).mono ?_
      rintro e w2 ⟨rfl, hg2, hw2⟩
      have hwr2 : w.grownBy w2 (some g) := grown_trans (grown_alloc hwr _) hw2
      clear hw2
      by_cases hx0 : x = 0
      · subst hx0
        go_wp2
        go_roundw
        case rel =>
          refine ⟨j + 1, m2, by omega, hle.2 (by simp), by go_num, ?_, hg2, hwr2⟩
          refine HR.out.trans ?_
          rw [HD.out, looks, HX.out, if_pos rfl]
        case measure => simp [intOf]; omega
      · have hxb : (x != 0) = true := by rw [bne_iff_ne]; exact hx0
        go_wp2
        go_ret
        have HE : lookN (.mk k a b c d t ks) n deep = (x, m2) := HR.out.trans (by rw [HD.out, looks, HX.out, if_neg hx0])
        exact ⟨by rw [HE]; rfl, by rw [HE]; exact hg2, hwr2⟩
    · obtain rfl : j = ks.length := by omega
      have HR2 : Hid (lookN (.mk k a b c d t ks) n deep = (0, m)) := HR.out.trans (by rw [List.drop_length, looks])
      go_wp2
      go_ret
      exact ⟨by rw [HR2.out]; rfl, by rw [HR2.out]; exact hgr, hwr⟩

/-- what expr.Check and expr.Size say -/
def checkE (e : Ex) : Int := (lookN e 0 1).1
def sizeE (e : Ex) : Nat × Int := if (lookN e 0 1).1 = 0 then ((lookN e 0 1).2, 0) else (0, (lookN e 0 1).1)

theorem below_of_grown {w w' : World} {g B : Nat} (h : w.grownBy w' (some g)) (hB : B ≤ g) (hw : B ≤ w.heap.size) : Below B w w' :=
  ⟨h.os, h.tape, h.output, h.size, fun k hk => h.block k (by omega) fun e => by injection e with e; omega⟩

theorem Ex.parts (e : Ex) {w : World} {B : Nat} {cs : List Value} (h : ExIs w B e cs) : ∃ k a b c d t A n cp, cs = [.int .i64 k, .int .u64 a, .int .u64 b, .int .u64 c, .int .u64 d, .string t, .slice A n cp] := by
  cases h with
  | mk k a b c d t ks A cp row ht hl hm hnone hb hr hc => exact ⟨_, _, _, _, _, _, _, _, _, rfl⟩

theorem check_expr (e : Ex) (cs : List Value) (w : World) (h : ExIs w w.heap.size e cs) : Calls Tryd.prog 15 #[.agg cs.toArray] w fun e' w' => e' = .returned (.int .i64 (checkE e)) ∧ Below w.heap.size w w' := by
  have hl := fun (W : World) (g : Nat) (hW : Below w.heap.size w W) (hg : w.heap.size ≤ g) (hb : Blk W g 68 #[.int .i64 0]) => look_any e cs W g 0 1 w.heap.size (h.on hW) hg hb (by omega) (by omega)
  have HL := Lib.hid hl
  obtain ⟨k, a, b, c, d, t, A, n, cp, rfl⟩ := e.parts h
  clear hl h
  go_enter Tryd.func15, Tryd.ntmps15
  go_wp2_with fail
  refine (HL.out _ (w.heap.size + 1) (by repeat (first | exact Below.refl _ _ | assumption | refine Below.drew ?_ | refine below_drewN ?_ _ | refine Below.alloc ?_ (by first | omega | (simp; omega) | simp) _ | refine Below.setCell ?_ (by first | omega | (simp; omega) | simp) _)) (by omega) (blk_at (by simp))).mono ?_
  rintro e' w1 ⟨rfl, _, hw1⟩
  have hb1 : Below w.heap.size w w1 := Below.trans (by repeat (first | exact Below.refl _ _ | assumption | refine Below.drew ?_ | refine below_drewN ?_ _ | refine Below.alloc ?_ (by first | omega | (simp; omega) | simp) _ | refine Below.setCell ?_ (by first | omega | (simp; omega) | simp) _)) (below_of_grown hw1 (by simp) (by simp; omega))
  clear hw1
  go_wp2
  go_ret
  exact ⟨rfl, hb1⟩

end Go.Proofs.YtndhbdbfjkmloaaDoor
namespace Go.Proofs.YtndhbdbfjkmloaaDoor
open Go.RowKit

mutual
def nodes : Ex → Nat
  | .mk _ _ _ _ _ _ ks => 1 + nodesAll ks
def nodesAll : List Ex → Nat
  | [] => 0
  | e :: es => nodes e + nodesAll es
end

theorem looks_ok : ∀ (ks : List Ex) (n deep : Nat), (∀ e ∈ ks, ∀ n deep, (lookN e n deep).1 = 0 → ∀ n' deep', n' ≤ n → deep' ≤ deep → lookN e n' deep' = (0, n' + nodes e)) → (looks ks n deep).1 = 0 →
    ∀ n' deep', n' ≤ n → deep' ≤ deep → looks ks n' deep' = (0, n' + nodesAll ks) ∧ ∀ e ∈ ks, ∀ d, d ≤ deep → lookN e 0 d = (0, nodes e)
  | [], n, deep, _, _ => fun n' deep' _ _ => ⟨by simp [looks, nodesAll], fun e he => by cases he⟩
  | e :: es, n, deep, h, h0 => fun n' deep' hn hd => by
    have he := h e (by simp) n deep
    unfold looks at h0
    split at h0
    · rename_i hz
      have h1 := he hz n' deep' hn hd
      have h2 := he hz n deep (Nat.le_refl _) (Nat.le_refl _)
      rw [h2] at h0
      have h3 := looks_ok es (n + nodes e) deep (fun e' he' => h e' (by simp [he'])) h0 (n' + nodes e) deep' (by omega) hd
      refine ⟨?_, ?_⟩
      · unfold looks
        rw [h1, if_pos rfl, h3.1, nodesAll, Nat.add_assoc]
      · intro e' he' d hd'
        rcases List.mem_cons.1 he' with rfl | he'
        · have := he hz 0 d (Nat.zero_le _) hd'
          rw [this, Nat.zero_add]
        · exact h3.2 e' he' d hd'
    · rename_i hz
      exact absurd h0 hz
theorem look_ok (e : Ex) : ∀ n deep, (lookN e n deep).1 = 0 → ∀ n' deep', n' ≤ n → deep' ≤ deep → lookN e n' deep' = (0, n' + nodes e) := by
  refine Ex.ind (P := fun e => ∀ n deep, (lookN e n deep).1 = 0 → ∀ n' deep', n' ≤ n → deep' ≤ deep → lookN e n' deep' = (0, n' + nodes e)) ?_ e
  intro k a b c d t ks ih n deep h0 n' deep' hn hd
  unfold lookN at h0
  split at h0
  · simp at h0
  · split at h0
    · simp at h0
    · split at h0
      · simp at h0
      · rename_i g1 g2 g3
        have h3 := (looks_ok ks (n + 1) (deep + 1) ih h0 (n' + 1) (deep' + 1) (by omega) (by omega)).1
        unfold lookN
        rw [if_neg (by omega), if_neg (by omega), if_neg g3, h3, nodes, Nat.add_assoc]
/-- of a right expression -/
theorem parts_ok {k a b c d : Int} {t : ByteArray} {ks : List Ex} (h : checkE (.mk k a b c d t ks) = 0) : sizeE (.mk k a b c d t ks) = (1 + nodesAll ks, 0) ∧ (∀ e ∈ ks, sizeE e = (nodes e, 0)) ∧ nodesAll ks ≤ 60 := by
  have h1 := look_ok _ 0 1 h 0 1 (Nat.le_refl _) (Nat.le_refl _)
  refine ⟨?_, ?_, ?_⟩
  · unfold sizeE
    rw [h1, if_pos rfl, Nat.zero_add, nodes]
  · intro e he
    unfold checkE at h
    unfold lookN at h
    split at h
    · simp at h
    · split at h
      · simp at h
      · split at h
        · simp at h
        · have := (looks_ok ks (0 + 1) (1 + 1) (fun e _ => look_ok e) h (0 + 1) (1 + 1) (Nat.le_refl _) (Nat.le_refl _)).2 e he 1 (by omega)
          unfold sizeE
          rw [this, if_pos rfl]
  · have h2 := (lookN_le (.mk k a b c d t ks) 0 1 (by omega)).2 h
    rw [h1, nodes] at h2
    simp at h2
    omega
theorem size_bad {e : Ex} (h : checkE e ≠ 0) : sizeE e = (0, checkE e) := by
  unfold sizeE checkE at *
  rw [if_neg h]

end Go.Proofs.YtndhbdbfjkmloaaDoor
namespace Go.Proofs.YtndhbdbfjkmloaaDoor
open Go.ChangeShapes Go.WideShapes Go.ChangeAt Go.RowKit

theorem I64_of_wf {z : Int} (h : (Lit.int .i64 z).wf = true) : I64 z := by
  simpa [I64, Lit.wf, IntKind.min, IntKind.max, IntKind.signed, IntKind.bits] using h

end Go.Proofs.YtndhbdbfjkmloaaDoor
namespace Go.Proofs.YtndhbdbfjkmloaaDoor
open Go.RowKit

def U64 (x : Int) : Prop := 0 ≤ x ∧ x < 18446744073709551616
theorem U64.nat {x : Int} (h : U64 x) : ∃ v : BitVec 64, x = (v.toNat : Int) := by
  obtain ⟨n, rfl⟩ := Int.eq_ofNat_of_zero_le h.1
  refine ⟨BitVec.ofNat 64 n, ?_⟩
  have := h.2
  rw [BitVec.toNat_ofNat, Nat.mod_eq_of_lt (by omega)]
theorem orU_bv (u v : BitVec 64) : orU (u.toNat : Int) (v.toNat : Int) = ((u ||| v).toNat : Int) := by
  unfold orU; rw [u64_or_nat _ _ u.isLt v.isLt, BitVec.toNat_or]
theorem andU_bv (u v : BitVec 64) : andU (u.toNat : Int) (v.toNat : Int) = ((u &&& v).toNat : Int) := by
  unfold andU; rw [u64_and_nat _ _ u.isLt v.isLt, BitVec.toNat_and]
theorem notU_bv (u : BitVec 64) : notU (u.toNat : Int) = ((~~~u).toNat : Int) := by
  unfold notU
  have h := u64_xor_nat 18446744073709551615 u.toNat (by omega) u.isLt
  rw [show ((18446744073709551615 : Nat) : Int) = 18446744073709551615 from rfl] at h
  rw [h, show (18446744073709551615 : Nat) ^^^ u.toNat = ((BitVec.allOnes 64) ^^^ u).toNat by rw [BitVec.toNat_xor]; rfl, BitVec.allOnes_xor]

theorem U64.or {x y : Int} (hx : U64 x) (hy : U64 y) : U64 (orU x y) := by
  obtain ⟨u, rfl⟩ := hx.nat; obtain ⟨v, rfl⟩ := hy.nat
  rw [orU_bv]; exact ⟨by omega, by have := (u ||| v).isLt; omega⟩
theorem U64.and {x y : Int} (hx : U64 x) (hy : U64 y) : U64 (andU x y) := by
  obtain ⟨u, rfl⟩ := hx.nat; obtain ⟨v, rfl⟩ := hy.nat
  rw [andU_bv]; exact ⟨by omega, by have := (u &&& v).isLt; omega⟩
end Go.Proofs.YtndhbdbfjkmloaaDoor
namespace Go.Proofs.YtndhbdbfjkmloaaDoor
open Go.ChangeShapes Go.WideShapes Go.ChangeAt Go.RowKit

theorem U64_of_wf {z : Int} (h : (Lit.int .u64 z).wf = true) : U64 z := by
  have : 0 ≤ z ∧ z ≤ 18446744073709551615 := by simpa [Lit.wf, IntKind.min, IntKind.max, IntKind.signed, IntKind.bits] using h
  exact ⟨this.1, by omega⟩

/-- four cells that read as a set -/
theorem trod_set {H : Type} {enc : TypeId × Value → H} {P : Program} {W : World} {base : Nat} {sp : Nat → Bool} {held : Bool} {t e : TypeId} {fuel : Nat} {cs : List Value} {x : DataW H × List MemPlace}
    (ht : P.underlying t = some (.array 4 e)) (he : P.underlying e = some (.int .u64)) (hc : P.cellsOf e = 1) (hct : P.cellsOf t = 4) (h : DataW.trod enc P W base sp held fuel t cs = some x) :
    ∃ a b c d, cs = [.int .u64 a, .int .u64 b, .int .u64 c, .int .u64 d] ∧ U64 a ∧ U64 b ∧ U64 c ∧ U64 d := by
  obtain ⟨xs, m, _, _, hl, hx, hi⟩ := DataW.trod_array ht h
  rw [hct] at hl
  match cs, hl with
  | [v0, v1, v2, v3], _ =>
    match xs, hx with
    | [y0, y1, y2, y3], _ =>
      have g0 := hi 0 (by omega)
      have g1 := hi 1 (by omega)
      have g2 := hi 2 (by omega)
      have g3 := hi 3 (by omega)
      rw [hc] at g0 g1 g2 g3
      obtain ⟨a, ha, _, wa⟩ := DataW.trod_int he g0
      obtain ⟨b, hb, _, wb⟩ := DataW.trod_int he g1
      obtain ⟨c, hc, _, wc⟩ := DataW.trod_int he g2
      obtain ⟨d, hd, _, wd⟩ := DataW.trod_int he g3
      simp at ha hb hc hd
      subst ha hb hc hd
      exact ⟨a, b, c, d, rfl, U64_of_wf wa, U64_of_wf wb, U64_of_wf wc, U64_of_wf wd⟩

theorem agg_of_cells {v : Value} {cs : List Value} (h : v.cells.toList = cs) (hl : cs.length ≠ 1) : v = .agg cs.toArray := by
  cases v <;> simp [Value.cells] at h
  case agg c => rw [← h]
  all_goals (subst h; simp at hl)

end Go.Proofs.YtndhbdbfjkmloaaDoor
namespace Go.Proofs.YtndhbdbfjkmloaaDoor
open Go.ChangeShapes Go.WideShapes Go.ChangeAt Go.RowKit

theorem ex_fields : (Tryd.prog.underlying 27).map (fun u => match u with | .struct fs => fs.toList.map (fun f => (f.type, f.offset)) | _ => []) = some [(3, 0), (24, 1), (9, 5), (25, 6)] := by kernel_rfl
theorem ex_cells : Tryd.prog.cellsOf 27 = 7 := by kernel_rfl

theorem seven_of {cs : List Value} (h : cs.length = 7) : ∃ c0 c1 c2 c3 c4 c5 c6, cs = [c0, c1, c2, c3, c4, c5, c6] := by
  match cs, h with
  | [c0, c1, c2, c3, c4, c5, c6], _ => exact ⟨c0, c1, c2, c3, c4, c5, c6, rfl⟩
theorem row_of {α : Type} [Inhabited α] {n : Nat} {p : Nat → α → Prop} (h : ∀ i, i < n → ∃ x, p i x) : ∃ f : Nat → α, ∀ i, i < n → p i (f i) := by
  have h' : ∀ i, ∃ x, i < n → p i x := fun i => by
    by_cases hi : i < n
    · obtain ⟨x, hx⟩ := h i hi
      exact ⟨x, fun _ => hx⟩
    · exact ⟨default, fun h => absurd h hi⟩
  exact ⟨fun i => (h' i).choose, fun i hi => (h' i).choose_spec hi⟩

end Go.Proofs.YtndhbdbfjkmloaaDoor
namespace Go.Proofs.YtndhbdbfjkmloaaDoor
open Go.RowKit

/-- the cells of an expression at p, as a walk spells them -/
structure Seven (w : World) (p : Addr) (k a b c d : Int) (t : ByteArray) (A : Option Addr) (n cp : Nat) : Prop where
  c0 : w.cell? p = some (.int .i64 k)
  c1 : w.cell? ⟨p.block, p.off + 1, none⟩ = some (.int .u64 a)
  c2 : w.cell? ⟨p.block, p.off + 2, none⟩ = some (.int .u64 b)
  c3 : w.cell? ⟨p.block, p.off + 3, none⟩ = some (.int .u64 c)
  c4 : w.cell? ⟨p.block, p.off + 4, none⟩ = some (.int .u64 d)
  c5 : w.cell? ⟨p.block, p.off + 5, none⟩ = some (.string t)
  c6 : w.cell? ⟨p.block, p.off + 6, none⟩ = some (.slice A n cp)
theorem Seven.of {w : World} {p : Addr} {k a b c d : Int} {t : ByteArray} {A : Option Addr} {n cp : Nat}
    (h : ∀ j u, (exCells k a b c d t A n cp)[j]? = some u → w.cell? (p.add j) = some u) : Seven w p k a b c d t A n cp :=
  ⟨h 0 _ rfl, h 1 _ rfl, h 2 _ rfl, h 3 _ rfl, h 4 _ rfl, h 5 _ rfl, h 6 _ rfl⟩

section
variable {w : World} {B : Nat} {k a b c d : Int} {t : ByteArray} {ks : List Ex} {cs : List Value} {A : Option Addr} {n cp : Nat}
theorem ExIs.shape (h : ExIs w B (.mk k a b c d t ks) cs) : t.size ≤ maxLen ∧ ∃ A cp, cs = exCells k a b c d t A ks.length cp ∧ ks.length ≤ cp ∧ cp ≤ maxLen ∧ (A = none → cp = 0) := by
  cases h with
  | mk _ _ _ _ _ _ _ A cp row ht hl hm hnone hb hr hc => exact ⟨ht, A, cp, rfl, hl, hm, hnone⟩
theorem ExIs.len (h : ExIs w B (.mk k a b c d t ks) (exCells k a b c d t A n cp)) : n = ks.length ∧ t.size ≤ maxLen ∧ n ≤ cp ∧ cp ≤ maxLen ∧ (A = none → cp = 0) := by
  obtain ⟨h1, A', cp', e, h2, h3, h4⟩ := h.shape
  simp only [exCells, List.cons.injEq, Value.slice.injEq, true_and, and_true] at e
  obtain ⟨rfl, rfl, rfl⟩ := e
  exact ⟨rfl, h1, h2, h3, h4⟩
theorem ExIs.kid (h : ExIs w B (.mk k a b c d t ks) (exCells k a b c d t A n cp)) {j : Nat} (hj : j < ks.length) :
    ∃ (ad : Addr) (k' a' b' c' d' : Int) (t' : ByteArray) (ks' : List Ex) (A' : Option Addr) (cp' : Nat), A = some ad ∧ ad.block < B ∧ ks[j]? = some (.mk k' a' b' c' d' t' ks') ∧
      ExIs w B (.mk k' a' b' c' d' t' ks') (exCells k' a' b' c' d' t' A' ks'.length cp') ∧ Seven w (ad.add (j * 7)) k' a' b' c' d' t' A' ks'.length cp' := by
  have hlen := h.len.1
  generalize he : exCells k a b c d t A n cp = cs at h
  cases h with
  | mk _ _ _ _ _ _ _ A0 cp0 row ht hl hm hnone hb hr hc =>
    simp only [exCells, List.cons.injEq, Value.slice.injEq, true_and, and_true] at he
    obtain ⟨rfl, _, rfl⟩ := he
    obtain ⟨ad, rfl, hab⟩ := hb (by omega)
    have hej : ks[j]? = some ks[j] := List.getElem?_eq_getElem hj
    generalize ks[j] = ej at hej
    have hE := hr j ej hej
    have hcc := hc j ej ad hej rfl
    generalize row j = rj at hE hcc
    cases ej with
    | mk k' a' b' c' d' t' ks' =>
    obtain ⟨_, A', cp', rfl, _⟩ := hE.shape
    exact ⟨ad, k', a', b', c', d', t', ks', A', cp', rfl, hab, hej, hE, Seven.of hcc⟩
/-- an expression of one node -/
theorem ExIs.leaf (w : World) (B : Nat) (k a b c d : Int) (t : ByteArray) (ht : t.size ≤ maxLen) : ExIs w B (.mk k a b c d t []) (exCells k a b c d t none 0 0) :=
  .mk k a b c d t [] none 0 (fun _ => []) ht (by simp) (by unfold maxLen; omega) (fun _ => rfl) (fun h => by simp at h) (fun i e h => by simp at h) (fun i e ad h => by simp at h)
end

/-- a rule: its name, its body -/
abbrev Rl := ByteArray × Ex
/-- the rules of a grammar, below block B -/
structure GrIs (w : World) (B : Nat) (g : List Rl) (A : Option Addr) (cp : Nat) (row : Nat → List Value) : Prop where
  le : g.length ≤ cp
  cap : cp ≤ maxLen
  nil : A = none → cp = 0
  lies : 0 < g.length → ∃ ad : Addr, A = some ad ∧ ad.block < B
  small : ∀ (i : Nat) (r : Rl), g[i]? = some r → r.1.size ≤ maxLen
  body : ∀ (i : Nat) (r : Rl), g[i]? = some r → ExIs w B r.2 (row i)
  name : ∀ (i : Nat) (r : Rl) (ad : Addr), g[i]? = some r → A = some ad → w.cell? (ad.add (i * 8)) = some (.string r.1)
  cell : ∀ (i : Nat) (r : Rl) (ad : Addr), g[i]? = some r → A = some ad → ∀ j u, (row i)[j]? = some u → w.cell? ((ad.add (i * 8)).add (j + 1)) = some u

section
variable {w w' : World} {B B' : Nat} {g : List Rl} {A : Option Addr} {cp : Nat} {row : Nat → List Value}
theorem GrIs.keep (h : GrIs w B g A cp row) (hB : B ≤ B') (hk : ∀ p : Addr, p.block < B → w'.cell? p = w.cell? p) : GrIs w' B' g A cp row where
  le := h.le
  cap := h.cap
  nil := h.nil
  lies h0 := by
    obtain ⟨ad, e, h1⟩ := h.lies h0
    exact ⟨ad, e, Nat.lt_of_lt_of_le h1 hB⟩
  small := h.small
  body i r hr := (h.body i r hr).keep hB hk
  name i r ad hr hA := by
    obtain ⟨ad', e', h1⟩ := h.lies (by have := getElem?_lt hr; omega)
    rw [hA] at e'
    injection e' with e'
    subst e'
    rw [hk _ (by rw [add_block]; exact h1)]
    exact h.name i r ad hr hA
  cell i r ad hr hA j u hu := by
    obtain ⟨ad', e', h1⟩ := h.lies (by have := getElem?_lt hr; omega)
    rw [hA] at e'
    injection e' with e'
    subst e'
    rw [hk _ (by rw [add_block, add_block]; exact h1)]
    exact h.cell i r ad hr hA j u hu
theorem GrIs.on (h : GrIs w B g A cp row) (hb : Below B w w') : GrIs w' B g A cp row := h.keep (Nat.le_refl _) fun _ => hb.cell
theorem GrIs.more (h : GrIs w B g A cp row) (hB : B ≤ B') : GrIs w B' g A cp row := h.keep hB fun _ _ => rfl
end

theorem toList_eq_iff (a b : ByteArray) : (a.toList == b.toList) = decide (a.data.toList = b.data.toList) := by
  rw [ByteArray.toList_eq, ByteArray.toList_eq]
  by_cases h : a.data.toList = b.data.toList
  · rw [h]; simp
  · simp only [h, decide_false, beq_eq_false_iff_ne, ne_eq, not_false_eq_true]
end Go.Proofs.YtndhbdbfjkmloaaDoor
namespace Go.Proofs.YtndhbdbfjkmloaaDoor
open Go.ChangeShapes Go.WideShapes Go.ChangeAt Go.RowKit

/-- all numbers of an expression are of their width -/
inductive WfE : Ex → Prop
  | mk (k a b c d : Int) (t : ByteArray) (ks : List Ex) : I64 k → U64 a → U64 b → U64 c → U64 d → (∀ e ∈ ks, WfE e) → WfE (.mk k a b c d t ks)

set_option maxRecDepth 100000 in
theorem trod_exw {H : Type} {enc : TypeId × Value → H} {W : World} : ∀ (fuel : Nat) {cs : List Value} {x : DataW H × List MemPlace},
    DataW.trod enc Tryd.prog W 0 (fun _ => true) true fuel 27 cs = some x → ∃ e, ExIs W W.heap.size e cs ∧ WfE e := by
  intro fuel
  induction fuel using Nat.strongRecOn with
  | _ fuel ih =>
    intro cs x h
    obtain ⟨u, hu, hf⟩ := Option.map_eq_some_iff.1 ex_fields
    match u, hf with
    | .struct fs, hf =>
      obtain ⟨xs, n, rfl, _, hl, hlen, hget⟩ := DataW.trod_struct hu h
      rw [ex_cells] at hl
      have hf' : fs.toList.map (fun f => (f.type, f.offset)) = [(3, 0), (24, 1), (9, 5), (25, 6)] := hf
      have hfl : fs.toList.length = 4 := by have := congrArg List.length hf'; simpa using this
      have at_ : ∀ (i : Nat) (t o : Nat), [(3, 0), (24, 1), (9, 5), (25, 6)][i]? = some (t, o) → ∃ y, DataW.trod enc Tryd.prog W 0 (fun _ => true) true n t ((cs.drop o).take (Tryd.prog.cellsOf t)) = some y := by
        intro i t o hi
        rw [← hf', List.getElem?_map, Option.map_eq_some_iff] at hi
        obtain ⟨f, hf1, hf2⟩ := hi
        have hg := hget i f (by simpa using hf1)
        injection hf2 with e1 e2
        subst e1 e2
        have : i < xs.length := by
          have h3 := getElem?_lt hf1
          rw [hfl] at h3
          have h4 : fs.size = 4 := by simpa using hfl
          rw [hlen, h4]
          exact h3
        rw [List.getElem?_eq_getElem this] at hg
        exact ⟨_, hg⟩
      obtain ⟨y0, h0⟩ := at_ 0 _ _ rfl
      obtain ⟨y1, h1⟩ := at_ 1 _ _ rfl
      obtain ⟨y2, h2⟩ := at_ 2 _ _ rfl
      obtain ⟨y3, h3⟩ := at_ 3 _ _ rfl
      rw [show Tryd.prog.cellsOf 3 = 1 from by kernel_rfl] at h0
      rw [show Tryd.prog.cellsOf 24 = 4 from by kernel_rfl] at h1
      rw [show Tryd.prog.cellsOf 9 = 1 from by kernel_rfl] at h2
      rw [show Tryd.prog.cellsOf 25 = 1 from by kernel_rfl] at h3
      obtain ⟨k, e0, _, wk⟩ := DataW.trod_int Tryd.underlying3 h0
      obtain ⟨a, b, c, d, e1, wa, wb, wc, wd⟩ := trod_set Tryd.underlying24 Tryd.underlying22 (by kernel_rfl) (by kernel_rfl) h1
      obtain ⟨t, e2, _, wt⟩ := DataW.trod_string Tryd.underlying9 h2
      have wk' := I64_of_wf wk
      obtain ⟨c0, c1, c2, c3, c4, c5, c6, rfl⟩ := seven_of hl
      simp at e0 e1 e2
      subst e0 e2
      obtain ⟨rfl, rfl, rfl, rfl⟩ := e1
      rcases DataW.trod_slice Tryd.underlying25 h3 with ⟨e3, _⟩ | ⟨ad, len, cap, elems, rest, m, e4, e3, _, _, hlc, hcm, hel, hk, _⟩
      · simp at e3
        subst e3
        exact ⟨.mk k a b c d t [], .mk k a b c d t [] none 0 (fun _ => []) wt (by simp) (by unfold maxLen; omega) (fun _ => rfl) (fun h => by simp at h) (fun i e h => by simp at h) (fun i e ad h => by simp at h), .mk _ _ _ _ _ _ _ wk' wa wb wc wd (fun e he => by cases he)⟩
      · simp at e3
        subst e3
        have hk' : ∀ i, i < len → ∃ r : Ex × List Value, (ExIs W W.heap.size r.1 r.2 ∧ WfE r.1) ∧ ad.block < W.heap.size ∧ ∀ j u, r.2[j]? = some u → W.cell? ((ad.add (i * 7)).add j) = some u := by
          intro i hi
          have hg := hk i hi
          rw [List.getElem?_eq_getElem (by omega), ex_cells] at hg
          obtain ⟨ci, hc1, hc2⟩ := Option.bind_eq_some_iff.1 hg
          obtain ⟨e, he⟩ := ih m (by omega) hc2
          obtain ⟨_, hc3, hc4⟩ := World.cells?_some hc1
          have hb := World.block_lt_of_cell? W _ ((hc4 0 (by omega)).trans (List.getElem?_eq_getElem (by omega)))
          rw [add_block, add_block] at hb
          refine ⟨(e, ci), he, hb, fun j u hu => ?_⟩
          rw [hc4 j (by have := getElem?_lt hu; simp at this; omega)]
          exact hu
        obtain ⟨f, hf⟩ := @row_of (Ex × List Value) ⟨(.mk 0 0 0 0 0 ⟨#[]⟩ [], [])⟩ _ _ hk'
        have hlen' : ((List.range len).map fun i => (f i).1).length = len := by simp
        have hget : ∀ i e, ((List.range len).map fun i => (f i).1)[i]? = some e → i < len ∧ e = (f i).1 := by
          intro i e he
          have hi := getElem?_lt he
          rw [hlen'] at hi
          simp [hi] at he
          exact ⟨hi, he.symm⟩
        have hx := ExIs.mk (w := W) (B := W.heap.size) k a b c d t ((List.range len).map fun i => (f i).1) (some ad) cap (fun i => (f i).2) wt (by rw [hlen']; exact hlc) hcm (fun h => by cases h)
          (fun h => ⟨ad, rfl, (hf 0 (by rw [hlen'] at h; exact h)).2.1⟩) (fun i e he => by obtain ⟨hi, rfl⟩ := hget i e he; exact (hf i hi).1.1)
          (fun i e ad' he hA j u hu => by obtain ⟨hi, rfl⟩ := hget i e he; injection hA with hA; subst hA; exact (hf i hi).2.2 j u hu)
        rw [hlen'] at hx
        refine ⟨_, hx, .mk _ _ _ _ _ _ _ wk' wa wb wc wd fun e he => ?_⟩
        obtain ⟨i, hi⟩ := List.getElem?_of_mem he
        obtain ⟨hi', rfl⟩ := hget i e hi
        exact (hf i hi').1.2

end Go.Proofs.YtndhbdbfjkmloaaDoor
namespace Go.Proofs.YtndhbdbfjkmloaaDoor
open Go.RowKit

/-! the text -/
/-- how tight a kind holds -/
def lvl (k : Int) : Nat := if k = 6 then 1 else if k = 5 then 2 else if k = 10 ∨ k = 11 then 3 else if k = 7 ∨ k = 8 ∨ k = 9 then 4 else 5
def Ex.kindX : Ex → Int | .mk k _ _ _ _ _ _ => k
/-- within brackets, if it holds less tight than it must -/
def brk (e : Ex) (least : Nat) (s : List UInt8) : List UInt8 := if lvl e.kindX < least then 40 :: (s ++ [41]) else s
/-- the word of all bits -/
def wM : Int := 18446744073709551615
mutual
def txE : Ex → List UInt8
  | .mk k a b c d t ks =>
    if k = 1 then [40, 41]
    else if k = 2 then (if a = wM ∧ b = wM ∧ c = wM ∧ d = wM then [46] else clsAll [a.toNat, b.toNat, c.toNat, d.toNat])
    else if k = 3 then litL t.data.toList
    else if k = 4 then t.data.toList
    else if k = 10 then 38 :: (txL 3 ks).flatten
    else if k = 11 then 33 :: (txL 3 ks).flatten
    else if k = 7 then (txL 4 ks).flatten ++ [42]
    else if k = 8 then (txL 4 ks).flatten ++ [43]
    else if k = 9 then (txL 4 ks).flatten ++ [63]
    else if k = 6 then Lib.join (txL 2 ks) [32, 47, 32]
    else Lib.join (txL 3 ks) [32]
def txL (least : Nat) : List Ex → List (List UInt8)
  | [] => []
  | e :: es => brk e least (txE e) :: txL least es
end

/-! the signs of a text -/
/-- behind blanks and remarks (true: within a remark) -/
def skipL : Bool → List UInt8 → List UInt8
  | _, [] => []
  | false, c :: l => if c = 32 ∨ c = 9 ∨ c = 10 ∨ c = 13 then skipL false l else if c = 35 then skipL true l else c :: l
  | true, c :: l => if c = 10 then skipL false l else skipL true l
def isLD (c : Nat) : Bool := isLet c || isDig c
/-- how many letters and digits are ahead -/
def nameL : List UInt8 → Nat
  | [] => 0
  | c :: l => if isLD c.toNat then nameL l + 1 else 0
def eNil : Ex := .mk 1 0 0 0 0 ⟨#[]⟩ []
def eAny : Ex := .mk 2 wM wM wM wM ⟨#[]⟩ []
def eSet (w : List Nat) : Ex := .mk 2 (w.getD 0 0 : Nat) (w.getD 1 0 : Nat) (w.getD 2 0 : Nat) (w.getD 3 0 : Nat) ⟨#[]⟩ []
def eLit (t : List UInt8) : Ex := .mk 3 0 0 0 0 ⟨t.toArray⟩ []
def eRef (t : List UInt8) : Ex := .mk 4 0 0 0 0 ⟨t.toArray⟩ []
def notL (w : List Nat) : List Nat := w.map fun x => 18446744073709551615 - x
inductive Tok where
  | fin
  | bad
  | nd (e : Ex) (n : Nat)
  | sg (c : Nat) (n : Nat)
/-- what stands ahead -/
def tokL : List UInt8 → Tok
  | [] => .fin
  | c :: r =>
    if c = 39 ∨ c = 34 then
      match unl c.toNat sgU.data.toList (r.length + 1) r with
      | none => .bad
      | some (o, n) => .nd (if o = [] then eNil else eLit o) (n + 1)
    else if c = 91 then
      if bt r 0 = 94 then
        match unc (r.length + 2) (r.drop 1) [0, 0, 0, 0] with
        | none => .bad
        | some (w, n) => .nd (eSet (notL w)) (n + 2)
      else
        match unc (r.length + 2) r [0, 0, 0, 0] with
        | none => .bad
        | some (w, n) => .nd (eSet w) (n + 1)
    else if c = 46 then .nd eAny 1
    else if c = 40 ∨ c = 41 ∨ c = 47 ∨ c = 38 ∨ c = 33 ∨ c = 63 ∨ c = 42 ∨ c = 43 then .sg c.toNat 1
    else if c = 60 ∧ bt r 0 = 45 then .sg 60 2
    else if isLet c.toNat then .nd (eRef ((c :: r).take (nameL (c :: r)))) (nameL (c :: r))
    else .bad
def Tok.isBad : Tok → Bool | .bad => true | _ => false
/-- on behind a sign of n bytes -/
def goL (l : List UInt8) (n : Nat) : List UInt8 := skipL false (l.drop n)
/-- is it a name behind which an arrow comes? -/
def namesL (h : Bool) (l : List UInt8) : Bool := match tokL l with
  | .nd e n => h && (decide (e.kindX = 4) && decide ((goL l n).take 2 = [60, 45]))
  | _ => false
/-- may an expression begin here? -/
def begL (h : Bool) (l : List UInt8) : Bool := match tokL l with
  | .nd _ _ => !namesL h l
  | .sg c _ => decide (c = 40 ∨ c = 38 ∨ c = 33)
  | _ => false

/-! reading -/
/-- what is read, and what is left; or where it can't be read -/
inductive Rs where
  | ok (e : Ex) (l : List UInt8)
  | no (l : List UInt8)
inductive Pj where
  | alt
  | altL (acc : List Ex)
  | seq
  | seqL (acc : List Ex)
  | pre
  | post (e : Ex)
  | pri
def oneOr (k : Int) : List Ex → Ex
  | [e] => e
  | acc => .mk k 0 0 0 0 ⟨#[]⟩ acc
def thenGo (l : List UInt8) (n : Nat) (k : List UInt8 → Option Rs) : Option Rs := if (tokL (goL l n)).isBad = true then some (.no (goL l n)) else k (goL l n)
def bindR : Option Rs → (Ex → List UInt8 → Option Rs) → Option Rs
  | none, _ => none
  | some (.no l), _ => some (.no l)
  | some (.ok e l), k => k e l
def postK (c : Nat) : Int := if c = 63 then 9 else if c = 42 then 7 else 8
def rdJ (h : Bool) : Nat → Pj → List UInt8 → Option Rs
  | 0, _, _ => none
  | f + 1, .alt, l => bindR (rdJ h f .seq l) fun e l1 => rdJ h f (.altL [e]) l1
  | f + 1, .altL acc, l => match tokL l with
    | .sg c n => if c = 47 then thenGo l n fun l1 => bindR (rdJ h f .seq l1) fun e l2 => rdJ h f (.altL (acc ++ [e])) l2 else some (.ok (oneOr 6 acc) l)
    | _ => some (.ok (oneOr 6 acc) l)
  | f + 1, .seq, l => bindR (rdJ h f .pre l) fun e l1 => rdJ h f (.seqL [e]) l1
  | f + 1, .seqL acc, l => if begL h l = true then bindR (rdJ h f .pre l) fun e l1 => rdJ h f (.seqL (acc ++ [e])) l1 else some (.ok (oneOr 5 acc) l)
  | f + 1, .pre, l => match tokL l with
    | .sg c n => if c = 38 ∨ c = 33 then thenGo l n fun l1 => bindR (rdJ h f .pre l1) fun e l2 => some (.ok (.mk (if c = 38 then 10 else 11) 0 0 0 0 ⟨#[]⟩ [e]) l2) else bindR (rdJ h f .pri l) fun e l1 => rdJ h f (.post e) l1
    | _ => bindR (rdJ h f .pri l) fun e l1 => rdJ h f (.post e) l1
  | f + 1, .post e, l => match tokL l with
    | .sg c n => if c = 63 ∨ c = 42 ∨ c = 43 then thenGo l n fun l1 => rdJ h f (.post (.mk (postK c) 0 0 0 0 ⟨#[]⟩ [e])) l1 else some (.ok e l)
    | _ => some (.ok e l)
  | f + 1, .pri, l => if begL h l = true then
      match tokL l with
      | .nd e n => thenGo l n fun l1 => some (.ok e l1)
      | .sg c n => if c = 40 then thenGo l n fun l1 =>
          match tokL l1 with
          | .sg c1 n1 => if c1 = 41 then thenGo l1 n1 fun l2 => some (.ok eNil l2) else bindR (rdJ h f .alt l1) fun e l2 => match tokL l2 with
            | .sg c2 n2 => if c2 = 41 then thenGo l2 n2 fun l3 => some (.ok e l3) else some (.no l2)
            | _ => some (.no l2)
          | _ => bindR (rdJ h f .alt l1) fun e l2 => match tokL l2 with
            | .sg c2 n2 => if c2 = 41 then thenGo l2 n2 fun l3 => some (.ok e l3) else some (.no l2)
            | _ => some (.no l2)
        else some (.no l)
      | _ => some (.no l)
    else some (.no l)

theorem bindR_mono {x x' : Option Rs} {k k' : Ex → List UInt8 → Option Rs} (hx : ∀ R, x = some R → x' = some R) (hk : ∀ e l R, k e l = some R → k' e l = some R) {R : Rs} (h : bindR x k = some R) : bindR x' k' = some R := by
  cases x with
  | none => cases h
  | some y =>
    rw [hx y rfl]
    cases y with
    | no l => exact h
    | ok e l => exact hk e l R h
theorem thenGo_mono {l : List UInt8} {n : Nat} {k k' : List UInt8 → Option Rs} (hk : ∀ l R, k l = some R → k' l = some R) {R : Rs} (h : thenGo l n k = some R) : thenGo l n k' = some R := by
  unfold thenGo at h ⊢
  split at h
  · rw [if_pos (by assumption)]; exact h
  · rw [if_neg (by assumption)]; exact hk _ _ h
theorem rdJ_succ (h : Bool) : ∀ (f : Nat) (j : Pj) (l : List UInt8) (R : Rs), rdJ h f j l = some R → rdJ h (f + 1) j l = some R := by
  intro f
  induction f with
  | zero => intro j l R hR; cases hR
  | succ f ih =>
    intro j l R hR
    cases j with
    | alt => rw [rdJ] at hR ⊢; exact bindR_mono (ih _ _) (fun _ _ => ih _ _) hR
    | altL acc =>
      rw [rdJ] at hR ⊢
      cases ht : tokL l with
      | sg c n =>
        rw [ht] at hR
        simp only at hR ⊢
        split at hR
        · rw [if_pos (by assumption)]
          exact thenGo_mono (fun _ _ h => bindR_mono (ih _ _) (fun _ _ => ih _ _) h) hR
        · rw [if_neg (by assumption)]; exact hR
      | _ => rw [ht] at hR; exact hR
    | seq => rw [rdJ] at hR ⊢; exact bindR_mono (ih _ _) (fun _ _ => ih _ _) hR
    | seqL acc =>
      rw [rdJ] at hR ⊢
      split at hR
      · rw [if_pos (by assumption)]; exact bindR_mono (ih _ _) (fun _ _ => ih _ _) hR
      · rw [if_neg (by assumption)]; exact hR
    | pre =>
      rw [rdJ] at hR ⊢
      cases ht : tokL l with
      | sg c n =>
        rw [ht] at hR
        simp only at hR ⊢
        split at hR
        · rw [if_pos (by assumption)]
          exact thenGo_mono (fun _ _ h => bindR_mono (ih _ _) (fun _ _ _ h => h) h) hR
        · rw [if_neg (by assumption)]; exact bindR_mono (ih _ _) (fun _ _ => ih _ _) hR
      | _ => rw [ht] at hR; exact bindR_mono (ih _ _) (fun _ _ => ih _ _) hR
    | post e =>
      rw [rdJ] at hR ⊢
      cases ht : tokL l with
      | sg c n =>
        rw [ht] at hR
        simp only at hR ⊢
        split at hR
        · rw [if_pos (by assumption)]
          exact thenGo_mono (fun _ => ih _ _) hR
        · rw [if_neg (by assumption)]; exact hR
      | _ => rw [ht] at hR; exact hR
    | pri =>
      rw [rdJ] at hR ⊢
      split at hR
      · rw [if_pos (by assumption)]
        cases ht : tokL l with
        | sg c n =>
          rw [ht] at hR
          simp only at hR ⊢
          split at hR
          · rw [if_pos (by assumption)]
            refine thenGo_mono (fun l1 R h => ?_) hR
            cases ht1 : tokL l1 with
            | sg c1 n1 =>
              rw [ht1] at h
              simp only at h ⊢
              split at h
              · rw [if_pos (by assumption)]; exact h
              · rw [if_neg (by assumption)]; exact bindR_mono (ih _ _) (fun _ _ _ h => h) h
            | _ => rw [ht1] at h; exact bindR_mono (ih _ _) (fun _ _ _ h => h) h
          · rw [if_neg (by assumption)]; exact hR
        | _ => rw [ht] at hR; exact hR
      · rw [if_neg (by assumption)]; exact hR
theorem rdJ_le {h : Bool} {f f' : Nat} (hf : f ≤ f') {j : Pj} {l : List UInt8} {R : Rs} (hR : rdJ h f j l = some R) : rdJ h f' j l = some R := by
  induction hf with
  | refl => exact hR
  | step _ ih => exact rdJ_succ h _ _ _ _ ih
/-- it is read so -/
def Rd (h : Bool) (j : Pj) (l : List UInt8) (R : Rs) : Prop := ∃ f, rdJ h f j l = some R
theorem Rd.uniq {h : Bool} {j : Pj} {l : List UInt8} {R R' : Rs} : Rd h j l R → Rd h j l R' → R = R'
  | ⟨f, hf⟩, ⟨f', hf'⟩ => by
    have h1 := rdJ_le (Nat.le_max_left f f') hf
    have h2 := rdJ_le (Nat.le_max_right f f') hf'
    rw [h1] at h2
    exact Option.some.inj h2
end Go.Proofs.YtndhbdbfjkmloaaDoor
