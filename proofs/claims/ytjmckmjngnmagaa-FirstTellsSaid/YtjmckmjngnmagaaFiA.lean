/- Lists of sets in memory; well.Empty; lists of sets are compared; a byte's set, two sets together. -/
import Derived.Test.YtjmckmjngnmagaaFirP
import Derived.Test.YtjmckmjngnmagaaWeI
import Derived.Test.YtjmckmjngnmagaaEqF
import Derived.Test.YtjmckmjngnmagaaGB
namespace Go.Proofs.Ytjmckmjngnmagaa
open Go.RowKit

theorem wrapI (n : Int) (h1 : -9223372036854775808 ≤ n) (h2 : n ≤ 9223372036854775807) : IntKind.i64.wrap n = n := by
  unfold IntKind.wrap IntKind.signed IntKind.bits
  simp
  omega
def B4.vals (x : B4) : List Value := [.int .u64 x.s4.a, .int .u64 x.s4.b, .int .u64 x.s4.c, .int .u64 x.s4.d]
def setC (l : List B4) : List Value := l.flatMap B4.vals
theorem setC_get : ∀ (fs : List B4) (i j : Nat) (x : B4), fs[i]? = some x → j < 4 → (setC fs)[i * 4 + j]? = x.vals[j]?
  | [], i, j, x, h, _ => by simp at h
  | y :: fs, 0, j, x, h, hj => by
    simp at h
    subst h
    have : (y.vals ++ setC fs)[0 * 4 + j]? = y.vals[j]? := by rw [Nat.zero_mul, Nat.zero_add, List.getElem?_append_left (by simp [B4.vals]; omega)]
    exact this
  | y :: fs, i + 1, j, x, h, hj => by
    have h1 := setC_get fs i j x (by simpa using h) hj
    have : (y.vals ++ setC fs)[(i + 1) * 4 + j]? = x.vals[j]? := by
      rw [List.getElem?_append_right (by simp [B4.vals]; omega), ← h1]
      congr 1
      simp [B4.vals]
      omega
    exact this
theorem setC_len (fs : List B4) : (setC fs).length = fs.length * 4 := by
  induction fs with
  | nil => rfl
  | cons x fs ih =>
    show (x.vals ++ setC fs).length = _
    rw [List.length_append, ih]
    simp [B4.vals]
    omega
structure Four (w : World) (p : Addr) (x : B4) : Prop where
  c0 : w.cell? p = some (.int .u64 x.s4.a)
  c1 : w.cell? ⟨p.block, p.off + 1, none⟩ = some (.int .u64 x.s4.b)
  c2 : w.cell? ⟨p.block, p.off + 2, none⟩ = some (.int .u64 x.s4.c)
  c3 : w.cell? ⟨p.block, p.off + 3, none⟩ = some (.int .u64 x.s4.d)
theorem Four.keep {w w' : World} {p : Addr} {x : B4} (h : Four w p x) (hk : ∀ q : Addr, q.block = p.block → w'.cell? q = w.cell? q) : Four w' p x :=
  ⟨(hk _ rfl).trans h.c0, (hk ⟨p.block, p.off + 1, none⟩ rfl).trans h.c1, (hk ⟨p.block, p.off + 2, none⟩ rfl).trans h.c2, (hk ⟨p.block, p.off + 3, none⟩ rfl).trans h.c3⟩
theorem reads_set {w : World} {B n i : Nat} {A : Option Addr} {fs : List B4} (h : Reads w B 4 A n (setC fs)) (hi : i < n) :
    ∃ ad x, A = some ad ∧ ad.block < B ∧ fs[i]? = some x ∧ Four w (ad.add (i * 4)) x := by
  obtain ⟨ad, rfl, hb, hc⟩ := h.lies (by omega)
  have hlen : fs.length = n := by have := h.len; rw [setC_len] at this; omega
  have hx : fs[i]? = some fs[i] := List.getElem?_eq_getElem (by omega)
  generalize fs[i] = x at hx
  have h0 := hc _ _ (setC_get fs i 0 x hx (by omega))
  have h1 := hc _ _ (setC_get fs i 1 x hx (by omega))
  have h2 := hc _ _ (setC_get fs i 2 x hx (by omega))
  have h3 := hc _ _ (setC_get fs i 3 x hx (by omega))
  refine ⟨ad, x, rfl, hb, hx, by simpa using h0, ?_, ?_, ?_⟩
  · rw [← add_add'] at h1; exact h1
  · rw [← add_add'] at h2; exact h2
  · rw [← add_add'] at h3; exact h3
theorem setC_set : ∀ (fs : List B4) (i : Nat) (x : B4), i < fs.length → ((((setC fs).set (i * 4) (.int .u64 x.s4.a)).set (i * 4 + 1) (.int .u64 x.s4.b)).set (i * 4 + 2) (.int .u64 x.s4.c)).set (i * 4 + 3) (.int .u64 x.s4.d) = setC (fs.set i x)
  | [], i, x, h => by simp at h
  | y :: fs, 0, x, _ => by
    show (((([Value.int .u64 y.s4.a, .int .u64 y.s4.b, .int .u64 y.s4.c, .int .u64 y.s4.d] ++ setC fs).set 0 _).set 1 _).set 2 _).set 3 _ = [Value.int .u64 x.s4.a, .int .u64 x.s4.b, .int .u64 x.s4.c, .int .u64 x.s4.d] ++ setC fs
    rfl
  | y :: fs, i + 1, x, h => by
    have ih := setC_set fs i x (by simpa using h)
    show (((([Value.int .u64 y.s4.a, .int .u64 y.s4.b, .int .u64 y.s4.c, .int .u64 y.s4.d] ++ setC fs).set ((i + 1) * 4) _).set ((i + 1) * 4 + 1) _).set ((i + 1) * 4 + 2) _).set ((i + 1) * 4 + 3) _ = [Value.int .u64 y.s4.a, .int .u64 y.s4.b, .int .u64 y.s4.c, .int .u64 y.s4.d] ++ setC (fs.set i x)
    rw [← ih]
    have e : (i + 1) * 4 = i * 4 + 4 := by omega
    rw [e]
    rfl
theorem setC_zero (n : Nat) : setC (List.replicate n B4.no) = List.replicate (n * 4) (.int .u64 0) := by
  induction n with
  | zero => rfl
  | succ n ih =>
    rw [List.replicate_succ]
    show [Value.int .u64 0, .int .u64 0, .int .u64 0, .int .u64 0] ++ setC _ = _
    rw [ih, show (n + 1) * 4 = n * 4 + 1 + 1 + 1 + 1 by omega, List.replicate_succ, List.replicate_succ, List.replicate_succ, List.replicate_succ]
    rfl
theorem info_set : (Try.prog.info? 32).map (fun i => (i.zero, i.size, i.bytes)) = some (some (.agg #[.int .u64 0, .int .u64 0, .int .u64 0, .int .u64 0]), 4, 32) := by kernel_rfl
theorem made_sets (n : Nat) : madeCells (Value.agg #[.int .u64 0, .int .u64 0, .int .u64 0, .int .u64 0]).cells (n * 4) = (setC (List.replicate n B4.no)).toArray := by
  rw [setC_zero]
  apply Array.ext
  · simp [size_madeCells]
  · intro i h1 h2
    simp [madeCells, Value.cells]
    have : i % 4 = 0 ∨ i % 4 = 1 ∨ i % 4 = 2 ∨ i % 4 = 3 := by omega
    rcases this with h | h | h | h <;> simp [h]
/-- sets in a block of their own -/
def SetBk (w : World) (b : Nat) (kn : List B4) : Prop := Blk w b 32 (setC kn).toArray
theorem SetBk.reads {w : World} {b B : Nat} {kn : List B4} (h : SetBk w b kn) (hb : b < B) : Reads w B 4 (some ⟨b, 0, none⟩) kn.length (setC kn) :=
  ⟨setC_len kn, fun _ => ⟨_, rfl, hb, World.news_of_block h⟩⟩
theorem SetBk.cells {w : World} {b i : Nat} {kn : List B4} {x : B4} (h : SetBk w b kn) (hx : kn[i]? = some x) :
    w.cell? ⟨b, i * 4, none⟩ = some (.int .u64 x.s4.a) ∧ w.cell? ⟨b, i * 4 + 1, none⟩ = some (.int .u64 x.s4.b) ∧ w.cell? ⟨b, i * 4 + 2, none⟩ = some (.int .u64 x.s4.c) ∧ w.cell? ⟨b, i * 4 + 3, none⟩ = some (.int .u64 x.s4.d) := by
  have h0 := setC_get kn i 0 x hx (by omega)
  have h1 := setC_get kn i 1 x hx (by omega)
  have h2 := setC_get kn i 2 x hx (by omega)
  have h3 := setC_get kn i 3 x hx (by omega)
  refine ⟨(Blk.cell h (i * 4)).trans ?_, (Blk.cell h (i * 4 + 1)).trans ?_, (Blk.cell h (i * 4 + 2)).trans ?_, (Blk.cell h (i * 4 + 3)).trans ?_⟩
  · rw [List.getElem?_toArray]; exact h0
  · rw [List.getElem?_toArray]; exact h1
  · rw [List.getElem?_toArray]; exact h2
  · rw [List.getElem?_toArray]; exact h3
theorem SetBk.put {w : World} {b i : Nat} {kn : List B4} (h : SetBk w b kn) (hi : i < kn.length) (x : B4) :
    SetBk ((((w.setCell ⟨b, i * 4, none⟩ (.int .u64 x.s4.a)).setCell ⟨b, i * 4 + 1, none⟩ (.int .u64 x.s4.b)).setCell ⟨b, i * 4 + 2, none⟩ (.int .u64 x.s4.c)).setCell ⟨b, i * 4 + 3, none⟩ (.int .u64 x.s4.d)) b (kn.set i x) := by
  have h1 := (((Blk.set_ h (i * 4) (.int .u64 x.s4.a)).set_ (i * 4 + 1) (.int .u64 x.s4.b)).set_ (i * 4 + 2) (.int .u64 x.s4.c)).set_ (i * 4 + 3) (.int .u64 x.s4.d)
  unfold SetBk
  rw [← setC_set kn i x hi]
  simpa using h1
theorem B4.s4_inj {x y : B4} (h : x.s4 = y.s4) : x = y := B4.ext_has fun j _ => by unfold B4.has; rw [h]
theorem B4.same (x y : B4) : ((x.s4.a == y.s4.a) && ((x.s4.b == y.s4.b) && ((x.s4.c == y.s4.c) && (x.s4.d == y.s4.d)))) = decide (x = y) := by
  rw [Bool.eq_iff_iff]
  simp only [Bool.and_eq_true, beq_iff_eq, decide_eq_true_eq]
  constructor
  · rintro ⟨h1, h2, h3, h4⟩
    refine B4.s4_inj ?_
    obtain ⟨a, b, c, d⟩ := x
    obtain ⟨a', b', c', d'⟩ := y
    unfold B4.s4 at h1 h2 h3 h4 ⊢
    simp only at h1 h2 h3 h4
    rw [h1, h2, h3, h4]
  · rintro rfl
    exact ⟨rfl, rfl, rfl, rfl⟩
theorem same_b4 (w : World) (x y : B4) : (Op.equalIn 10000 32 (.agg #[.int .u64 x.s4.a, .int .u64 x.s4.b, .int .u64 x.s4.c, .int .u64 x.s4.d]) (.agg #[.int .u64 y.s4.a, .int .u64 y.s4.b, .int .u64 y.s4.c, .int .u64 y.s4.d])).run Try.prog w = .ok (decide (x = y)) w := by
  rw [run_same_set, B4.same]
theorem join_b4 (x y : B4) (w : World) : Calls Try.prog 79 #[.agg #[.int .u64 x.s4.a, .int .u64 x.s4.b, .int .u64 x.s4.c, .int .u64 x.s4.d], .agg #[.int .u64 y.s4.a, .int .u64 y.s4.b, .int .u64 y.s4.c, .int .u64 y.s4.d]] w fun e w' => e = .returned (.agg #[.int .u64 (B4.or x y).s4.a, .int .u64 (B4.or x y).s4.b, .int .u64 (B4.or x y).s4.c, .int .u64 (B4.or x y).s4.d]) ∧ Below w.heap.size w w' := by
  have h := join_any x.s4 y.s4 w
  rw [B4.or_s4]
  exact h
theorem range_b4 {y : Nat} (hy : y < 256) (w : World) : Calls Try.prog 21 #[.int .i64 y, .int .i64 y] w fun e w' => e = .returned (.agg #[.int .u64 (B4.one y).s4.a, .int .u64 (B4.one y).s4.b, .int .u64 (B4.one y).s4.c, .int .u64 (B4.one y).s4.d]) ∧ Below w.heap.size w w' := by
  have h := range_any y y w (by unfold I64; omega) (by unfold I64; omega) y 1 (by omega) (by omega)
  have hwo : words (rangeL y 1) = #[.int .u64 (oneS y).a, .int .u64 (oneS y).b, .int .u64 (oneS y).c, .int .u64 (oneS y).d] := by
    have hl4 := rangeL_len y 1
    unfold words oneS
    generalize rangeL y 1 = l at hl4
    match l, hl4 with
    | [x0, x1, x2, x3], _ => rfl
  rw [hwo] at h
  rw [B4.one_s4]
  exact h

set_option maxRecDepth 100000 in
set_option maxHeartbeats 4000000 in
theorem empty_any {g : List Rl} {fs : List Fa} {A FA : Option Addr} {cp fcp : Nat} {row : Nat → List Value} (hlen : fs.length = g.length) (e : Ex) (cs : List Value) (w : World) (hG : GrIs w w.heap.size g A cp row) (hF : Reads w w.heap.size 3 FA fs.length (facs fs)) (hE : ExIs w w.heap.size e cs) (hR : Rt g e) :
    Calls Try.prog 80 #[.agg #[.slice A g.length cp], .slice FA fs.length fcp, .agg cs.toArray] w fun e' w' => e' = .returned (.bool (ofE g fs e).e) ∧ Below w.heap.size w w' := by
  have hof := fun W (hW : Below w.heap.size w W) => of_any (fcp := fcp) hlen e cs W ((hG.on hW).more hW.size) ((hF.below hW).more hW.size) ((hE.on hW).keep hW.size fun _ _ => rfl) hR
  obtain ⟨k, a, b, c, d, t, A', n, cp', rfl⟩ := e.parts hE
  generalize ofE g fs e = x at hof ⊢
  have HOF := Lib.hid hof
  clear hof hG hF hE hR hlen
  have hfe := run_empty x.e x.a x.f
  go_enter Try.func80, Try.ntmps80
  go_wp2_with fail
  refine (HOF.out _ (by repeat (first | exact Below.refl _ _ | assumption | refine Below.drew ?_ | refine below_drewN ?_ _ | refine Below.alloc ?_ (by first | omega | (simp; omega) | simp) _ | refine Below.setCell ?_ (by first | omega | (simp; omega) | simp) _))).mono ?_
  unfold OfQ
  rintro e' w1 ⟨rfl, hb1⟩
  have hw1 : Below w.heap.size w w1 := (((Below.refl _ w).alloc (Nat.le_refl _) _).alloc (by simp) _).trans (hb1.mono (by simp; omega))
  clear hb1
  go_wp2
  go_ret
  exact ⟨rfl, hw1⟩

set_option maxRecDepth 100000 in
set_option maxHeartbeats 4000000 in
theorem equalS_any (A A' : Option Addr) (n c n' c' : Nat) (l l' : List B4) (B B' : Nat) (w : World) (h : Reads w B 4 A n (setC l)) (h' : Reads w B' 4 A' n' (setC l')) (hn : n ≤ 1000) (hl : l.length = n) (hl' : l'.length = n') :
    Calls Try.prog 19 #[.slice A n c, .slice A' n' c'] w fun e w' => e = .returned (.bool (decide (l = l'))) ∧ ∃ d, w' = w.drewN d := by
  have HL := Lib.hid hl
  have HL' := Lib.hid hl'
  clear hl hl'
  by_cases hnn : n = n'
  · subst hnn
    go_enter Try.func19, Try.ntmps19
    go_wp2
    go_loopw [5, 13] (fun _ i wr => ∃ j d : Nat, j ≤ n ∧ i = .int .i64 j ∧ Hid (l.take j = l'.take j) ∧ wr = w.drewN d) (fun _ i _ => n - (intOf i).toNat)
    case atStart => exact ⟨0, 0, by omega, rfl, rfl, rfl⟩
    case round =>
      obtain ⟨j, d, hj, rfl, HR, rfl⟩ := hrel
      by_cases hjn : j < n
      · obtain ⟨ad, x, rfl, hab, hg, e0, e1, e2, e3⟩ := reads_set h hjn
        obtain ⟨ad', x', rfl, hab', hg', e0', e1', e2', e3'⟩ := reads_set h' hjn
        have hq := fun w => same_b4 w x x'
        have HG := Lib.hid hg
        have HG' := Lib.hid hg'
        clear hg hg'
        by_cases heq : x = x'
        · subst heq
          simp only [decide_true] at hq
          go_wp2
          go_quiet (fail)
          go_wp2
          go_roundw
          case rel => exact ⟨j + 1, _, by omega, by go_num, by show _ = _; rw [take_succ_of HG.out, take_succ_of HG'.out, HR.out], rfl⟩
          case measure => simp [intOf]; omega
        · have HF : Hid (decide (l = l') = false) := by
            show _ = _
            rw [decide_eq_false_iff_not]
            rintro rfl
            have := HG.out.symm.trans HG'.out
            injection this with this
            exact heq this
          simp only [heq, decide_false] at hq
          clear heq
          go_wp2
          go_quiet (fail)
          go_wp2
          go_ret
          exact ⟨ret_bool HF.out.symm, d + nq, by first | rfl | simp [World.drewN, Nat.add_assoc] | rw [World.drewN_drewN]⟩
      · obtain rfl : j = n := by omega
        have HF : Hid (decide (l = l') = true) := by
          show _ = _
          have h1 := HR.out
          rw [List.take_of_length_le (by rw [HL.out]; omega), List.take_of_length_le (by rw [HL'.out]; omega)] at h1
          exact decide_eq_true h1
        go_wp2
        go_ret
        exact ⟨ret_bool HF.out.symm, _, rfl⟩
  · have HF : Hid (decide (l = l') = false) := by
      show _ = _
      rw [decide_eq_false_iff_not]
      rintro rfl
      exact hnn (HL.out.symm.trans HL'.out)
    have hb : ((n : Int) != (n' : Int)) = true := by rw [bne_iff_ne]; omega
    go_enter Try.func19, Try.ntmps19
    go_wp2
    go_ret
    exact ⟨ret_bool HF.out.symm, 0, rfl⟩
end Go.Proofs.Ytjmckmjngnmagaa
