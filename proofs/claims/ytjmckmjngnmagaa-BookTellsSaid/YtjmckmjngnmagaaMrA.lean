/- A runner in memory; (*runner).run of what has no kids. -/
import Derived.Test.YtjmckmjngnmagaaPkA
import Derived.Test.YtjmckmjngnmagaaMeP
namespace Go.Proofs.Ytjmckmjngnmagaa
open Go.RowKit Go.Maps

/-- where a runner lies, and what of it never turns -/
structure RC where
  B : Nat
  R : Nat
  A : Option Addr
  cp : Nat
  s : ByteArray
  g : List Rl
  row : Nat → List Value
  BR : B ≤ R
/-- with so many steps left; was there too few? -/
structure Rn (c : RC) (w : World) (L : Nat) (ov : Bool) : Prop where
  blk : Blk w c.R 109 #[.slice c.A c.g.length c.cp, .string c.s, .int .i64 L, .bool ov]
  gram : GrIs w c.B c.g c.A c.cp c.row
/-- all stands but the runner -/
structure KeepR (c : RC) (w w' : World) : Prop where
  os : w'.os = w.os
  tape : w'.tape = w.tape
  output : w'.output = w.output
  size : w.heap.size ≤ w'.heap.size
  blk : ∀ k, k < w.heap.size → k ≠ c.R → w'.heap[k]? = w.heap[k]?
section
variable {c : RC} {w w' w'' : World} {L : Nat} {ov : Bool}
theorem KeepR.refl (c : RC) (w : World) : KeepR c w w := ⟨rfl, rfl, rfl, Nat.le_refl _, fun _ _ _ => rfl⟩
theorem KeepR.trans (h : KeepR c w w') (h' : KeepR c w' w'') : KeepR c w w'' :=
  ⟨h'.os.trans h.os, h'.tape.trans h.tape, h'.output.trans h.output, Nat.le_trans h.size h'.size, fun k h1 h2 => (h'.blk k (Nat.lt_of_lt_of_le h1 h.size) h2).trans (h.blk k h1 h2)⟩
theorem KeepR.of_below (h : Below w.heap.size w w') : KeepR c w w' := ⟨h.os, h.tape, h.output, h.size, fun k h1 _ => h.block k h1⟩
theorem KeepR.below (h : KeepR c w w') {B : Nat} (hB : B ≤ w.heap.size) (h1 : B ≤ c.R) : Below B w w' :=
  ⟨h.os, h.tape, h.output, h.size, fun k hk => h.blk k (by omega) (by omega)⟩
theorem KeepR.box (h : KeepR c w w') {k : Nat} {t : TypeId} {cs : Array Value} (hb : Blk w k t cs) (h1 : k ≠ c.R) : Blk w' k t cs := (h.blk k hb.lt h1).trans hb
theorem KeepR.alloc (h : KeepR c w w') (o : Obj) : KeepR c w (w'.alloc o) := h.trans (KeepR.of_below ((Below.refl _ _).alloc (Nat.le_refl _) o))
theorem KeepR.drew (h : KeepR c w w') : KeepR c w w'.drew := ⟨h.os, h.tape, h.output, h.size, h.blk⟩
theorem KeepR.set (h : KeepR c w w') (i : Nat) (u : Value) : KeepR c w (w'.setCell ⟨c.R, i, none⟩ u) :=
  h.trans ⟨rfl, rfl, rfl, by simp [World.setCell], fun k _ hk => Below.heap_setCell w' ⟨c.R, i, none⟩ u k hk⟩
theorem Rn.below (h : Rn c w L ov) (hb : Below w.heap.size w w') : Rn c w' L ov :=
  ⟨h.blk.below hb h.blk.lt, h.gram.on (hb.mono (by have := c.BR; have := h.blk.lt; omega))⟩
theorem Rn.drew (h : Rn c w L ov) : Rn c w.drew L ov := ⟨h.blk.drew, h.gram.on ((Below.refl _ _).drew)⟩
theorem Rn.alloc (h : Rn c w L ov) (o : Obj) : Rn c (w.alloc o) L ov := h.below ((Below.refl _ _).alloc (Nat.le_refl _) o)
theorem Rn.left (h : Rn c w L ov) (L' : Nat) : Rn c (w.setCell ⟨c.R, 2, none⟩ (.int .i64 L')) L' ov :=
  ⟨h.blk.set_ 2 (.int .i64 L'), h.gram.on ((Below.refl _ _).setCell c.BR _)⟩
theorem Rn.over (h : Rn c w L ov) : Rn c (w.setCell ⟨c.R, 3, none⟩ (.bool true)) L true :=
  ⟨h.blk.set_ 3 (.bool true), h.gram.on ((Below.refl _ _).setCell c.BR _)⟩
theorem Rn.c0 (h : Rn c w L ov) : w.cell? ⟨c.R, 0, none⟩ = some (.slice c.A c.g.length c.cp) := h.blk.cell 0
theorem Rn.c1 (h : Rn c w L ov) : w.cell? ⟨c.R, 1, none⟩ = some (.string c.s) := h.blk.cell 1
theorem Rn.c2 (h : Rn c w L ov) : w.cell? ⟨c.R, 2, none⟩ = some (.int .i64 L) := h.blk.cell 2
theorem Rn.c3 (h : Rn c w L ov) : w.cell? ⟨c.R, 3, none⟩ = some (.bool ov) := h.blk.cell 3
theorem Rn.fr (h : Rn c w L ov) (i : Nat) : w.frozen? ⟨c.R, i, none⟩ = false := h.blk.frozen i
end

/-- what a run leaves: it took so many steps of those that were left -/
def Gone (c : RC) (L C : Nat) (o : Option Nat) (w : World) (e : Ending) (w' : World) : Prop := Ret (if L < C then none else o) e ∧ Rn c w' (L - C) (decide (L < C)) ∧ KeepR c w w'
theorem Gone.up {c : RC} {L C : Nat} {o : Option Nat} {w w1 w' : World} {e : Ending} (h : Gone c L C o w1 e w') (hk : KeepR c w w1) : Gone c (L + 1) (1 + C) o w e w' := by
  obtain ⟨h1, h2, h3⟩ := h
  refine ⟨?_, ?_, hk.trans h3⟩
  · rw [show (if L + 1 < 1 + C then none else o) = (if L < C then none else o) from by
      by_cases hc : L < C
      · rw [if_pos hc, if_pos (by omega)]
      · rw [if_neg hc, if_neg (by omega)]]
    exact h1
  · rw [show L + 1 - (1 + C) = L - C by omega, show decide (L + 1 < 1 + C) = decide (L < C) from by rw [decide_eq_decide]; omega]
    exact h2
theorem Gone.one {c : RC} {l : Nat} {o : Option Nat} {w : World} {e : Ending} {w' : World} (hr : Ret o e) (hn : Rn c w' l false) (hk : KeepR c w w') : Gone c (l + 1) 1 o w e w' := by
  refine ⟨?_, ?_, hk⟩
  · rw [if_neg (by omega)]; exact hr
  · rw [show l + 1 - 1 = l by omega, decide_eq_false (by omega)]; exact hn

/-- a grammar that is right, a text that is not too long -/
structure RC.Fit (c : RC) : Prop where
  right : RightG c.g
  wf : ∀ r ∈ c.g, WfE r.2
  len : c.s.data.toList.length ≤ 1000
def lots : Nat := 2000000
def DoesRun (c : RC) (n : Nat) : Prop := ∀ (e : Ex) (p : Nat) (o : Option Nat) (cs : List Value) (w : World) (L : Nat), ev c.g c.s.data.toList n e p = some o → ExIs w c.B e cs → RtW c.g e → p ≤ c.s.data.toList.length → Rn c w L false → L ≤ lots →
  Calls Try.prog 53 #[.pointer (some ⟨c.R, 0, none⟩), .agg cs.toArray, .int .i64 p] w (Gone c L (cost c.g c.s.data.toList n (.ex e) p) o w)
/-- where a run's walk stands -/
structure RunC (c : RC) (w : World) (L : Nat) (ov : Bool) (bc : Array Value) (W : World) : Prop where
  rn : Rn c W L ov
  keeps : KeepR c w W
  box : Blk W w.heap.size 35 bc
section
variable {c : RC} {w W W' : World} {L : Nat} {ov : Bool} {bc : Array Value}
theorem RunC.drew (h : RunC c w L ov bc W) : RunC c w L ov bc W.drew := ⟨h.rn.drew, h.keeps.drew, h.box.drew⟩
theorem RunC.below (h : RunC c w L ov bc W) (hb : Below W.heap.size W W') : RunC c w L ov bc W' := ⟨h.rn.below hb, h.keeps.trans (KeepR.of_below hb), h.box.below hb h.box.lt⟩
theorem RunC.alloc (h : RunC c w L ov bc W) (o : Obj) : RunC c w L ov bc (W.alloc o) := h.below ((Below.refl _ _).alloc (Nat.le_refl _) o)
/-- a step was taken -/
theorem RunC.start {l : Nat} (h : Rn c w (l + 1) false) (bc : Array Value) : RunC c w l false bc ((w.setCell ⟨c.R, 2, none⟩ (.int .i64 l)).alloc (.cells bc 35)) :=
  ⟨(h.left l).alloc _, ((KeepR.refl c w).set 2 _).alloc _, blk_at (by simp)⟩
theorem RunC.past (h : RunC c w L ov bc W) (hR : c.R < w.heap.size) {L' : Nat} {ov' : Bool} (hp : Rn c W' L' ov') (hk : KeepR c W W') : RunC c w L' ov' bc W' := ⟨hp, h.keeps.trans hk, hk.box h.box (by omega)⟩
end
theorem left_pred (l : Nat) : IntKind.i64.wrap (((l + 1 : Nat) : Int) - 1) = (l : Int) ∨ 9223372036854775807 < l := by
  by_cases h : 9223372036854775807 < l
  · exact .inr h
  · left
    rw [show ((l + 1 : Nat) : Int) - 1 = (l : Int) by omega]
    exact wrap_i64 _ (by omega) (by omega)

set_option maxRecDepth 100000 in
set_option maxHeartbeats 4000000 in
theorem mr_zero {c : RC} {w : World} (h : Rn c w 0 false) (bc : Array Value) (p : Nat) (C : Nat) (hC : 0 < C) (o : Option Nat) :
    Calls Try.prog 53 #[.pointer (some ⟨c.R, 0, none⟩), .agg bc, .int .i64 p] w (Gone c 0 C o w) := by
  have hlt := h.blk.lt
  have s2 := h.c2
  have s3 := h.c3
  have f3 := h.fr 3
  have HO := Lib.hid (h.over.alloc (.cells bc 35))
  have HK := Lib.hid (((KeepR.refl c w).set 3 (.bool true)).alloc (.cells bc 35))
  have hne : w.heap.size ≠ c.R := by omega
  clear h
  go_enter Try.func53, Try.ntmps53
  go_wp2
  go_ret2
  refine ⟨⟨0, ?_, fun tz ht => ?_⟩, ?_, HK.out⟩
  · rw [if_pos hC]; rfl
  · rw [if_pos hC] at ht; cases ht
  · rw [Nat.zero_sub, decide_eq_true hC]; exact HO.out

set_option maxRecDepth 100000 in
set_option maxHeartbeats 4000000 in
theorem mr_empty {c : RC} {w : World} {l : Nat} (h : Rn c w (l + 1) false) (hl : l + 1 ≤ lots) (a b d1 d2 : Int) (t : ByteArray) (A : Option Addr) (n cp p : Nat) :
    Calls Try.prog 53 #[.pointer (some ⟨c.R, 0, none⟩), .agg #[.int .i64 1, .int .u64 a, .int .u64 b, .int .u64 d1, .int .u64 d2, .string t, .slice A n cp], .int .i64 p] w (Gone c (l + 1) 1 (some p) w) := by
  have hlt := h.blk.lt
  have s2 := h.c2
  have s3 := h.c3
  have f2 := h.fr 2
  have hpl : ((l + 1 : Nat) : Int) = (l : Int) + 1 := by omega
  rw [hpl] at s2
  have hl0 : ((l : Int) + 1 == 0) = false := by rw [beq_eq_false_iff_ne]; omega
  have hne : w.heap.size ≠ c.R := by omega
  have hl' : l + 1 ≤ 2000000 := hl
  have HN := Lib.hid (RunC.start h #[.int .i64 1, .int .u64 a, .int .u64 b, .int .u64 d1, .int .u64 d2, .string t, .slice A n cp])
  clear h hl
  go_enter Try.func53, Try.ntmps53
  go_wp2
  go_ret2
  exact .one ⟨p, rfl, fun tz ht => by injection ht with ht; rw [ht]⟩ HN.out.rn HN.out.keeps
end Go.Proofs.Ytjmckmjngnmagaa
