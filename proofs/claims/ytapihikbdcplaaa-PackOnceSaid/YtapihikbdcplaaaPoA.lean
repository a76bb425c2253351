/- Steps in memory: compared, looked for. -/
import Derived.Test.YtapihikbdcplaaaPkO
import Derived.Test.YtapihikbdcplaaaPlA
import Derived.Laws.StructEq
import Derived.BigQuiet
import Derived.Deep.QuietTactic
namespace Go.Proofs.Ytapihikbdcplaaa
open Go.RowKit Go.Maps

/-- a step: rule, place, outcome -/
abbrev Stp := Nat × Nat × Option Nat
def stpV (x : Stp) : Value := .agg #[.int .i64 x.1, .int .i64 x.2.1, .bool x.2.2.isSome, .int .i64 (x.2.2.getD 0 : Nat)]
theorem stepC_eq (x : Stp) : stepC x = [.int .i64 x.1, .int .i64 x.2.1, .bool x.2.2.isSome, .int .i64 (x.2.2.getD 0 : Nat)] := by
  obtain ⟨a, b, c⟩ := x
  cases c <;> rfl
theorem steps_len (l : List Stp) : (l.flatMap stepC).length = l.length * 4 := by
  induction l with
  | nil => rfl
  | cons x l ih => rw [List.flatMap_cons, List.length_append, ih, stepC_eq]; simp; omega
theorem steps_get : ∀ (l : List Stp) (j : Nat) (x : Stp), l[j]? = some x → ∀ i u, (stepC x)[i]? = some u → (l.flatMap stepC)[j * 4 + i]? = some u
  | [], j, x, h => by simp at h
  | y :: l, 0, x, h => fun i u hu => by
    simp at h
    subst h
    rw [List.flatMap_cons, Nat.zero_mul, Nat.zero_add, List.getElem?_append_left (getElem?_lt hu)]
    exact hu
  | y :: l, j + 1, x, h => fun i u hu => by
    have := steps_get l j x (by simpa using h) i u hu
    rw [List.flatMap_cons, List.getElem?_append_right (by rw [stepC_eq]; simp; omega), ← this]
    congr 1
    rw [stepC_eq]
    simp
    omega
structure Four (w : World) (p : Addr) (x : Stp) : Prop where
  c0 : w.cell? p = some (.int .i64 x.1)
  c1 : w.cell? ⟨p.block, p.off + 1, none⟩ = some (.int .i64 x.2.1)
  c2 : w.cell? ⟨p.block, p.off + 2, none⟩ = some (.bool x.2.2.isSome)
  c3 : w.cell? ⟨p.block, p.off + 3, none⟩ = some (.int .i64 (x.2.2.getD 0 : Nat))
theorem reads_stp {w : World} {B n j : Nat} {A : Option Addr} {l : List Stp} (h : Reads w B 4 A n (l.flatMap stepC)) (hj : j < n) : ∃ ad x, A = some ad ∧ ad.block < B ∧ l[j]? = some x ∧ Four w (ad.add (j * 4)) x := by
  obtain ⟨ad, rfl, hb, hc⟩ := h.lies (by omega)
  have hl : l.length = n := by have := h.len; rw [steps_len] at this; omega
  have hej : l[j]? = some (l[j]'(by omega)) := List.getElem?_eq_getElem (by omega)
  generalize l[j]'(by omega) = v at hej
  have hg := steps_get l j v hej
  rw [stepC_eq] at hg
  refine ⟨ad, v, rfl, hb, hej, ?_, ?_, ?_, ?_⟩
  · exact hc (j * 4 + 0) _ (hg 0 _ rfl)
  · have := hc (j * 4 + 1) _ (hg 1 _ rfl)
    rw [← add_add'] at this
    exact this
  · have := hc (j * 4 + 2) _ (hg 2 _ rfl)
    rw [← add_add'] at this
    exact this
  · have := hc (j * 4 + 3) _ (hg 3 _ rfl)
    rw [← add_add'] at this
    exact this
theorem own_reads {w : World} {base : Nat} {V : Option Addr} {n cp : Nat} {l : List Stp} (h : w.ownsRow base 76 4 (.slice V n cp) n (l.flatMap stepC)) : Reads w w.heap.size 4 V n (l.flatMap stepC) := by
  refine ⟨h.1, fun hn => ?_⟩
  rcases h.2 with ⟨_, h0⟩ | ⟨g, cap, cur, hv, hb, hg, _⟩
  · omega
  · injection hv with hv1 hv2 hv3
    subst hv1
    exact ⟨_, rfl, (h.lt g rfl).2, fun j u hu => h.cells rfl j u hu⟩

theorem run_out_in (w : World) (d : Nat) (o o' : Bool) (n n' : Int) : (Op.equalIn (d + 1 + 1) 60 (.agg #[.bool o, .int .i64 n]) (.agg #[.bool o', .int .i64 n'])).run Try.prog w = .ok (o == o' && n == n') w := by
  have u4 := Try.underlying4
  have a4 := Try.isAgg4
  have z4 := Try.sizeOf4
  have u3 := Try.underlying3
  have a3 := Try.isAgg3
  have z3 := Try.sizeOf3
  have hS2 : Try.prog.underlying 60 = some (.struct (Try.prog.fieldsOf 60)) := by kernel_rfl
  have hp2 : Try.prog.stoodInHeld 60 = false := by kernel_rfl
  rw [run_equalIn_agg w (d + 1) 60 _ _ hS2 hp2]
  simp only [Program.fieldsOf, Try.underlying60]
  go_simp
  cases o <;> cases o' <;> cases h : (n == n') <;> simp_all
theorem run_same_stp (w : World) (a b a' b' : Int) (o o' : Bool) (n n' : Int) : (Op.equalIn 10000 76 (.agg #[.int .i64 a, .int .i64 b, .bool o, .int .i64 n]) (.agg #[.int .i64 a', .int .i64 b', .bool o', .int .i64 n'])).run Try.prog w = .ok (a == a' && (b == b' && (o == o' && n == n'))) w := by
  have u4 := Try.underlying4
  have a4 := Try.isAgg4
  have z4 := Try.sizeOf4
  have u3 := Try.underlying3
  have a3 := Try.isAgg3
  have z3 := Try.sizeOf3
  have a60 := Try.isAgg60
  have z60 := Try.sizeOf60
  have hS : Try.prog.underlying 76 = some (.struct (Try.prog.fieldsOf 76)) := by kernel_rfl
  have hp : Try.prog.stoodInHeld 76 = false := by kernel_rfl
  have hio := run_out_in
  rw [show (10000 : Nat) = 9999 + 1 from rfl, run_equalIn_agg w 9999 76 _ _ hS hp]
  simp only [Program.fieldsOf, Try.underlying76]
  go_simp
  by_cases h1 : a = a' <;> by_cases h2 : b = b' <;> by_cases h3 : n = n' <;> cases o <;> cases o' <;> simp [h1, h2, h3]

set_option maxRecDepth 100000 in
theorem equalS_same (A A' : Option Addr) (n c c' : Nat) (l : List Stp) (B B' : Nat) (w : World) (h : Reads w B 4 A n (l.flatMap stepC)) (h' : Reads w B' 4 A' n (l.flatMap stepC)) (hn : n ≤ 1000) :
    Calls Try.prog 35 #[.slice A n c, .slice A' n c'] w fun e w' => e = .returned (.bool true) ∧ ∃ d, w' = w.drewN d := by
  go_enter Try.func35, Try.ntmps35
  go_wp2
  go_loopw [5, 13] (fun _ i wr => ∃ j d : Nat, j ≤ n ∧ i = .int .i64 j ∧ wr = w.drewN d) (fun _ i _ => n - (intOf i).toNat)
  case atStart => exact ⟨0, 0, by omega, rfl, rfl⟩
  case round =>
    obtain ⟨j, d, hj, rfl, rfl⟩ := hrel
    by_cases hjn : j < n
    · obtain ⟨ad, x, rfl, hab, hg, e0, e1, e2, e3⟩ := reads_stp h hjn
      obtain ⟨ad', x', rfl, hab', hg', e0', e1', e2', e3'⟩ := reads_stp h' hjn
      rw [hg] at hg'
      injection hg' with hg'
      subst hg'
      have hq := fun w => run_same_stp w x.1 x.2.1 x.1 x.2.1 x.2.2.isSome x.2.2.isSome (x.2.2.getD 0 : Nat) (x.2.2.getD 0 : Nat)
      simp only [BEq.rfl, Bool.and_self] at hq
      clear hg
      generalize (x.1 : Int) = x1 at *
      generalize (x.2.1 : Int) = x2 at *
      generalize x.2.2.isSome = x3 at *
      generalize ((x.2.2.getD 0 : Nat) : Int) = x4 at *
      go_wp2
      go_quiet (fail)
      go_wp2
      go_roundw
      case rel => exact ⟨j + 1, _, by omega, by go_num, rfl⟩
      case measure => simp [intOf]; omega
    · obtain rfl : j = n := by omega
      go_wp2
      go_ret
      exact ⟨rfl, _, rfl⟩

set_option maxRecDepth 100000 in
theorem sameKey_any (x y : Stp) (b : Nat) (w : World) (hb : Blk w b 76 (stepC x).toArray) : Calls Try.prog 37 #[stpV y, .pointer (some ⟨b, 0, none⟩)] w fun e w' => e = .returned (.bool (decide (y.1 = x.1 ∧ y.2.1 = x.2.1))) ∧ Below w.heap.size w w' := by
  rw [stepC_eq] at hb
  have hlt := hb.lt
  have b0 : w.cell? ⟨b, 0, none⟩ = some (.int .i64 x.1) := hb.cell 0
  have b1 : w.cell? ⟨b, 1, none⟩ = some (.int .i64 x.2.1) := hb.cell 1
  unfold stpV
  generalize ((y.2.2.getD 0 : Nat) : Int) = y4
  generalize y.2.2.isSome = y3
  clear hb
  by_cases h1 : y.1 = x.1
  · by_cases h2 : y.2.1 = x.2.1
    · rw [decide_eq_true ⟨h1, h2⟩, h1, h2]
      go_enter Try.func37, Try.ntmps37
      go_wp2
      go_ret
      exact ⟨by simp, (by repeat (first | exact Below.refl _ _ | assumption | refine Below.drew ?_ | refine below_drewN ?_ _ | refine Below.alloc ?_ (by first | omega | (simp; omega) | simp) _ | refine Below.setCell ?_ (by first | omega | (simp; omega) | simp) _))⟩
    · rw [decide_eq_false (fun h => h2 h.2), h1]
      have hne : ((y.2.1 : Int) == (x.2.1 : Int)) = false := by rw [beq_eq_false_iff_ne]; omega
      go_enter Try.func37, Try.ntmps37
      go_wp2
      go_ret
      exact ⟨by first | rfl | simp [hne], (by repeat (first | exact Below.refl _ _ | assumption | refine Below.drew ?_ | refine below_drewN ?_ _ | refine Below.alloc ?_ (by first | omega | (simp; omega) | simp) _ | refine Below.setCell ?_ (by first | omega | (simp; omega) | simp) _))⟩
  · rw [decide_eq_false (fun h => h1 h.1)]
    have hne : ((y.1 : Int) == (x.1 : Int)) = false := by rw [beq_eq_false_iff_ne]; omega
    go_enter Try.func37, Try.ntmps37
    go_wp2
    go_ret
    exact ⟨by first | rfl | simp [hne], (by repeat (first | exact Below.refl _ _ | assumption | refine Below.drew ?_ | refine below_drewN ?_ _ | refine Below.alloc ?_ (by first | omega | (simp; omega) | simp) _ | refine Below.setCell ?_ (by first | omega | (simp; omega) | simp) _))⟩

set_option maxRecDepth 100000 in
set_option maxHeartbeats 4000000 in
theorem indexS_any (A : Option Addr) (n c : Nat) (l : List Stp) (x : Stp) (b : Nat) (w : World) (hb : Blk w b 76 (stepC x).toArray) (h : Reads w w.heap.size 4 A l.length (l.flatMap stepC)) (hn : n ≤ l.length) (hl : l.length ≤ 100000) (hno : ∀ y ∈ l.take n, ¬ (y.1 = x.1 ∧ y.2.1 = x.2.1)) :
    Calls Try.prog 62 #[.slice A n c, .func (.func 37) #[] #[.pointer (some ⟨b, 0, none⟩)]] w fun e w' => e = .returned (.int .i64 (-1)) ∧ Below w.heap.size w w' := by
  have H := Lib.hid h
  have HNO := Lib.hid hno
  have hbl := hb.lt
  clear h hno
  go_enter Try.func62, Try.ntmps62
  go_wp2
  go_loopw [5, 8] (fun _ i wr => ∃ j : Nat, j ≤ n ∧ i = .int .i64 j ∧ Below w.heap.size w wr) (fun _ i _ => n - (intOf i).toNat)
  case atStart => exact ⟨0, by omega, rfl, Below.refl _ _⟩
  case round =>
    obtain ⟨j, hj, rfl, hwr⟩ := hrel
    by_cases hjn : j < n
    · obtain ⟨ad, y, rfl, hab, hg, e0, e1, e2, e3⟩ := reads_stp (H.out.below hwr) (show j < l.length by omega)
      have hky := HNO.out y (List.mem_of_getElem? (show (l.take n)[j]? = some y by rw [List.getElem?_take]; simp [hjn, hg]))
      have hcall := fun W (hW : Below w.heap.size w W) => sameKey_any x y b W (hb.below hW hbl)
      rw [decide_eq_false hky] at hcall
      unfold stpV at hcall
      have HC := Lib.hid hcall
      have hwz := hwr.size
      clear hcall hky hg
      generalize (y.1 : Int) = y1 at *
      generalize (y.2.1 : Int) = y2 at *
      generalize y.2.2.isSome = y3 at *
      generalize ((y.2.2.getD 0 : Nat) : Int) = y4 at *
      go_wp2_with fail
      refine (HC.out _ hwr).mono ?_
      rintro e w2 ⟨rfl, hb2⟩
      have hw2 : Below w.heap.size w w2 := hwr.trans (hb2.mono hwz)
      clear hb2
      go_wp2
      go_roundw
      case rel => exact ⟨j + 1, by omega, by go_num, hw2⟩
      case measure => simp [intOf]; omega
    · obtain rfl : j = n := by omega
      go_wp2
      go_ret
      exact ⟨rfl, hwr⟩
set_option maxRecDepth 100000 in
theorem containsS_any (A : Option Addr) (n c : Nat) (l : List Stp) (x : Stp) (b : Nat) (w : World) (hb : Blk w b 76 (stepC x).toArray) (h : Reads w w.heap.size 4 A l.length (l.flatMap stepC)) (hn : n ≤ l.length) (hl : l.length ≤ 100000) (hno : ∀ y ∈ l.take n, ¬ (y.1 = x.1 ∧ y.2.1 = x.2.1)) :
    Calls Try.prog 36 #[.slice A n c, .func (.func 37) #[] #[.pointer (some ⟨b, 0, none⟩)]] w fun e w' => e = .returned (.bool false) ∧ Below w.heap.size w w' := by
  have hi := indexS_any A n c l x b w hb h hn hl hno
  have HI := Lib.hid hi
  clear hi hno h hb
  go_enter Try.func36, Try.ntmps36
  go_wp2_with fail
  refine HI.out.mono ?_
  rintro e w1 ⟨rfl, hb1⟩
  go_wp2
  go_ret
  exact ⟨rfl, hb1⟩
end Go.Proofs.Ytapihikbdcplaaa
