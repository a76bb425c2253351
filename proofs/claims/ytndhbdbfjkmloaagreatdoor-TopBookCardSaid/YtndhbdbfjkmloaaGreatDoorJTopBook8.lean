/- What (*Parser).miss does. The plain parser never goes behind the text's end. How the arguments of a law are opened: what a reading of a slice of ints gives the walk. Plain laws of words of 64 bits. How a set that came in is opened: four words of 64 bits. How an expression that came in is opened. How a grammar that came in is opened. (*Parser).try: what a node does, and no more (no one is told). (*Parser).seq. (*Parser).single: what has one kid. -/
import Derived.Test.YtndhbdbfjkmloaaGreatDoorJTopBook7
import Derived.Test.YtndhbdbfjkmloaaGreatDoorJTopBook6
import Derived.Test.YtndhbdbfjkmloaaGreatDoorJTopBook0
import Derived.ProofKit
import Derived.OpenShut
import Derived.ShutString
import Derived.ChangeOld
import Derived.SizedLaws
import Derived.Test.YtndhbdbfjkmloaaGreatDoorJTopBook5
import Derived.Test.YtndhbdbfjkmloaaGreatDoorJTopBook1
namespace Go.Proofs.YtndhbdbfjkmloaaGreatDoor
open Go.RowKit Go.Maps

theorem run_noset (w : World) : (Instr.build 63 #[]).run Tryz.prog w = .ok (.agg #[.int .u64 0, .int .u64 0, .int .u64 0, .int .u64 0]) w := by kernel_rfl

section
variable {c : PC} {w : World} {σ : PS}
theorem Par.c0 (h : Par c w σ) : w.cell? ⟨c.P, 0, none⟩ = some (.slice c.A c.n c.cp) := h.par.choose_spec.1.cell 0
theorem Par.c1 (h : Par c w σ) : w.cell? ⟨c.P, 1, none⟩ = some (.string c.s) := h.par.choose_spec.1.cell 1
theorem Par.c2 (h : Par c w σ) : w.cell? ⟨c.P, 2, none⟩ = some (.map (some c.M)) := h.par.choose_spec.1.cell 2
theorem Par.c4 (h : Par c w σ) : w.cell? ⟨c.P, 4, none⟩ = some (.int .i64 σ.far) := h.par.choose_spec.1.cell 4
theorem Par.c5 (h : Par c w σ) : w.cell? ⟨c.P, 5, none⟩ = some (.int .u64 σ.want.a) := h.par.choose_spec.1.cell 5
theorem Par.c6 (h : Par c w σ) : w.cell? ⟨c.P, 6, none⟩ = some (.int .u64 σ.want.b) := h.par.choose_spec.1.cell 6
theorem Par.c7 (h : Par c w σ) : w.cell? ⟨c.P, 7, none⟩ = some (.int .u64 σ.want.c) := h.par.choose_spec.1.cell 7
theorem Par.c8 (h : Par c w σ) : w.cell? ⟨c.P, 8, none⟩ = some (.int .u64 σ.want.d) := h.par.choose_spec.1.cell 8
theorem Par.c9 (h : Par c w σ) : w.cell? ⟨c.P, 9, none⟩ = some c.hook := h.par.choose_spec.1.cell 9
theorem Par.c10 (h : Par c w σ) : w.cell? ⟨c.P, 10, none⟩ = some (.slice (some ⟨c.F, 0, none⟩) c.n c.fcp) := h.par.choose_spec.1.cell 10
theorem Par.fr (h : Par c w σ) (i : Nat) : w.frozen? ⟨c.P, i, none⟩ = false := h.par.choose_spec.1.frozen i
theorem Par.setWant (h : Par c w σ) (hok : c.Ok) (y : S4) :
    Par c ((((w.setCell ⟨c.P, 5, none⟩ (.int .u64 y.a)).setCell ⟨c.P, 6, none⟩ (.int .u64 y.b)).setCell ⟨c.P, 7, none⟩ (.int .u64 y.c)).setCell ⟨c.P, 8, none⟩ (.int .u64 y.d)) { σ with want := y } ∧
    Keeps c w ((((w.setCell ⟨c.P, 5, none⟩ (.int .u64 y.a)).setCell ⟨c.P, 6, none⟩ (.int .u64 y.b)).setCell ⟨c.P, 7, none⟩ (.int .u64 y.c)).setCell ⟨c.P, 8, none⟩ (.int .u64 y.d)) := by
  obtain ⟨a1, b1⟩ := h.set hok 5 (.int .u64 y.a) (σ' := { σ with want := ⟨y.a, σ.want.b, σ.want.c, σ.want.d⟩ }) (fun _ => rfl) rfl rfl
  obtain ⟨a2, b2⟩ := a1.set hok 6 (.int .u64 y.b) (σ' := { σ with want := ⟨y.a, y.b, σ.want.c, σ.want.d⟩ }) (fun _ => rfl) rfl rfl
  obtain ⟨a3, b3⟩ := a2.set hok 7 (.int .u64 y.c) (σ' := { σ with want := ⟨y.a, y.b, y.c, σ.want.d⟩ }) (fun _ => rfl) rfl rfl
  obtain ⟨a4, b4⟩ := a3.set hok 8 (.int .u64 y.d) (σ' := { σ with want := y }) (fun _ => rfl) rfl rfl
  exact ⟨a4, b1.trans (b2.trans (b3.trans b4))⟩
end

set_option maxRecDepth 100000 in
set_option maxHeartbeats 4000000 in
theorem miss_any {c : PC} (hok : c.Ok) {σ : PS} (p : Nat) (x : S4) (w : World) (h : Par c w σ) :
    Calls Tryz.prog 76 #[.pointer (some ⟨c.P, 0, none⟩), .int .i64 p, .agg #[.int .u64 x.a, .int .u64 x.b, .int .u64 x.c, .int .u64 x.d]] w fun e w' => e = .returned (.tuple #[]) ∧ Par c w' (missS σ p x) ∧ Keeps c w w' := by
  have hj := fun (y : S4) (W : World) => join_any y x W
  unfold S4.val at hj
  have HJ := Lib.hid hj
  have hb0 : Blk (w.alloc (.cells #[.int .u64 x.a, .int .u64 x.b, .int .u64 x.c, .int .u64 x.d] 63)) w.heap.size 63 #[.int .u64 x.a, .int .u64 x.b, .int .u64 x.c, .int .u64 x.d] := blk_at rfl
  have hpar : Par c (w.alloc (.cells #[.int .u64 x.a, .int .u64 x.b, .int .u64 x.c, .int .u64 x.d] 63)) σ := h.alloc hok _
  have hkp : Keeps c w (w.alloc (.cells #[.int .u64 x.a, .int .u64 x.b, .int .u64 x.c, .int .u64 x.d] 63)) := (Keeps.refl c w).alloc _
  have hc4 := hpar.c4
  have hne : c.P < w.heap.size := by have := hok.P; have := h.size; omega
  have hrn := run_noset
  clear hj
  have htail : ∀ (W : World) (σ1 : PS), Par c W σ1 → Keeps c w W → Blk W w.heap.size 63 #[.int .u64 x.a, .int .u64 x.b, .int .u64 x.c, .int .u64 x.d] → True := fun _ _ _ _ _ => trivial
  by_cases h1 : σ.far < (p : Int)
  · have hm : missS σ p x = { σ with far := p, want := S4.map2 orU noS x } := by unfold missS; rw [if_pos h1]
    rw [hm]
    have f4 := h.fr 4
    have f5 := h.fr 5
    have f6 := h.fr 6
    have f7 := h.fr 7
    have f8 := h.fr 8
    have s4 := h.c4
    have s5 := h.c5
    have s6 := h.c6
    have s7 := h.c7
    have s8 := h.c8
    have h4 := h.set hok 4 (.int .i64 p) (σ' := { σ with far := p }) (fun _ => rfl) rfl rfl
    have h5 := h4.1.setWant hok noS
    have HP := Lib.hid h5.1
    have HK := Lib.hid (h4.2.trans h5.2)
    clear h4 h5
    go_enter Tryz.func76, Tryz.ntmps76
    go_wp2_with fail
    refine wp_region_t (fun W => Par c W { σ with far := p, want := noS } ∧ Keeps c w W ∧ Blk W w.heap.size 63 #[.int .u64 x.a, .int .u64 x.b, .int .u64 x.c, .int .u64 x.d]) 9 (by kernel_rfl) (by kernel_rfl) ⟨(HP.out.alloc hok _).drew, (HK.out.alloc _).drew, (blk_at (by simp [World.setCell])).drew⟩ ?_
    simp only [List.take_succ_cons, List.take_zero]
    clear s4 s5 s6 s7 s8 f4 f5 f6 f7 f8
    repeat
      (first | ((with_reducible apply QW.free rfl); · (intro W hW; obtain ⟨q1, q2, q3⟩ := hW; have s5 := q1.c5; have s6 := q1.c6; have s7 := q1.c7; have s8 := q1.c8; have t0 := q3.cell 0; have t1 := q3.cell 1; have t2 := q3.cell 2; have t3 := q3.cell 3; go_simp; first | rfl | (go_at_call 98; refine (HJ.out noS _).mono ?_; exact fun e w' h => ⟨h.1, q1.below hok h.2, q2.trans (Keeps.of_below h.2), q3.below h.2 q3.lt⟩))) | ((with_reducible apply QW.skip rfl); · (first | exact ⟨_, _, rfl, rfl, .inl rfl⟩ | exact ⟨_, _, rfl, rfl, .inr rfl⟩)) | ((with_reducible apply QW.take rfl); (· exact ⟨_, rfl, rfl⟩); (· (intro W hW; obtain ⟨q1, q2, q3⟩ := hW; have s5 := q1.c5; have s6 := q1.c6; have s7 := q1.c7; have s8 := q1.c8; have t0 := q3.cell 0; have t1 := q3.cell 1; have t2 := q3.cell 2; have t3 := q3.cell 3; go_simp; first | rfl | (go_at_call 98; refine (HJ.out noS _).mono ?_; exact fun e w' h => ⟨h.1, q1.below hok h.2, q2.trans (Keeps.of_below h.2), q3.below h.2 q3.lt⟩))))); (try simp only [Act.put, List.setIfInBounds_toArray, List.set_cons_zero, List.set_cons_succ])
    refine QW.nil ?_
    rintro w1 ⟨q1, q2, q3⟩
    have s5 := q1.c5
    have s6 := q1.c6
    have s7 := q1.c7
    have s8 := q1.c8
    have f5 := q1.fr 5
    have f6 := q1.fr 6
    have f7 := q1.fr 7
    have f8 := q1.fr 8
    simp only [List.drop]
    go_wp2
    go_end0
    exact ⟨rfl, (q1.setWant hok (S4.map2 orU noS x)).1, q2.trans (q1.setWant hok (S4.map2 orU noS x)).2⟩
  · by_cases h2 : (p : Int) = σ.far
    · have hm : missS σ p x = { σ with want := S4.map2 orU σ.want x } := by unfold missS; rw [if_neg h1, if_pos h2]
      rw [hm]
      go_enter Tryz.func76, Tryz.ntmps76
      go_wp2_with fail
      refine wp_region_t (fun W => Par c W σ ∧ Keeps c w W ∧ Blk W w.heap.size 63 #[.int .u64 x.a, .int .u64 x.b, .int .u64 x.c, .int .u64 x.d]) 9 (by kernel_rfl) (by kernel_rfl) ⟨hpar.drew, hkp.drew, hb0.drew⟩ ?_
      simp only [List.take_succ_cons, List.take_zero]
      repeat
        (first | ((with_reducible apply QW.free rfl); · (intro W hW; obtain ⟨q1, q2, q3⟩ := hW; have s5 := q1.c5; have s6 := q1.c6; have s7 := q1.c7; have s8 := q1.c8; have t0 := q3.cell 0; have t1 := q3.cell 1; have t2 := q3.cell 2; have t3 := q3.cell 3; go_simp; first | rfl | (go_at_call 98; refine (HJ.out σ.want _).mono ?_; exact fun e w' h => ⟨h.1, q1.below hok h.2, q2.trans (Keeps.of_below h.2), q3.below h.2 q3.lt⟩))) | ((with_reducible apply QW.skip rfl); · (first | exact ⟨_, _, rfl, rfl, .inl rfl⟩ | exact ⟨_, _, rfl, rfl, .inr rfl⟩)) | ((with_reducible apply QW.take rfl); (· exact ⟨_, rfl, rfl⟩); (· (intro W hW; obtain ⟨q1, q2, q3⟩ := hW; have s5 := q1.c5; have s6 := q1.c6; have s7 := q1.c7; have s8 := q1.c8; have t0 := q3.cell 0; have t1 := q3.cell 1; have t2 := q3.cell 2; have t3 := q3.cell 3; go_simp; first | rfl | (go_at_call 98; refine (HJ.out σ.want _).mono ?_; exact fun e w' h => ⟨h.1, q1.below hok h.2, q2.trans (Keeps.of_below h.2), q3.below h.2 q3.lt⟩))))); (try simp only [Act.put, List.setIfInBounds_toArray, List.set_cons_zero, List.set_cons_succ])
      refine QW.nil ?_
      rintro w1 ⟨q1, q2, q3⟩
      have s5 := q1.c5
      have s6 := q1.c6
      have s7 := q1.c7
      have s8 := q1.c8
      have f5 := q1.fr 5
      have f6 := q1.fr 6
      have f7 := q1.fr 7
      have f8 := q1.fr 8
      simp only [List.drop]
      go_wp2
      go_end0
      exact ⟨rfl, (q1.setWant hok (S4.map2 orU σ.want x)).1, q2.trans (q1.setWant hok (S4.map2 orU σ.want x)).2⟩
    · have hm : missS σ p x = σ := by unfold missS; rw [if_neg h1, if_neg h2]
      rw [hm]
      go_enter Tryz.func76, Tryz.ntmps76
      go_wp2
      go_end0
      exact ⟨rfl, hpar, hkp⟩
end Go.Proofs.YtndhbdbfjkmloaaGreatDoor
namespace Go.Proofs.YtndhbdbfjkmloaaGreatDoor

def Bound (L : Nat) (σ : PS) : Prop := ∀ i p n, recall σ.seen (i, p) = some (some n) → p ≤ L → p + n ≤ L
theorem Bound.of_eq {L : Nat} {σ σ1 : PS} (h : Bound L σ) (he : σ1.seen = σ.seen) : Bound L σ1 := fun i p n hh => h i p n (by rw [← he]; exact hh)
theorem pk_bound (g : List Rl) (s : List UInt8) (hook : Bool) : ∀ m j p σ o σ1, pk g s hook m j p σ = some (o, σ1) → p ≤ s.length → Bound s.length σ → (∀ to, o = some to → to ≤ s.length) ∧ Bound s.length σ1 := by
  intro m
  induction m with
  | zero => intro j p σ o σ1 h; cases h
  | succ m ih =>
    intro j p σ o σ1 h hp hB
    cases j with
    | try_ e n =>
      simp only [pk] at h
      cases he : pk g s hook m (.node e n) p σ with
      | none => rw [he] at h; cases h
      | some x =>
        obtain ⟨o', σ'⟩ := x
        rw [he] at h
        simp only [Option.some.injEq, Prod.mk.injEq] at h
        obtain ⟨rfl, rfl⟩ := h
        obtain ⟨h1, h2⟩ := ih _ _ _ _ _ he hp hB
        exact ⟨h1, h2.of_eq (markS_seen _ _ _)⟩
    | rule i =>
      simp only [pk] at h
      cases hs : recall σ.seen (i, p) with
      | some o' =>
        rw [hs] at h
        simp only [Option.some.injEq, Prod.mk.injEq] at h
        obtain ⟨rfl, rfl⟩ := h
        refine ⟨fun to ht => ?_, hB⟩
        cases o' with
        | none => cases ht
        | some k => injection ht with ht; subst ht; exact hB i p k hs hp
      | none =>
        rw [hs] at h
        simp only at h
        cases hg : g[i]? with
        | none => rw [hg] at h; cases h
        | some r =>
          rw [hg] at h
          simp only at h
          cases he : pk g s hook m (.try_ r.2 (firstN g i)) p σ with
          | none => rw [he] at h; cases h
          | some x =>
            obtain ⟨o', σ'⟩ := x
            rw [he] at h
            simp only at h
            split at h
            · cases h
            · simp only [Option.some.injEq, Prod.mk.injEq] at h
              obtain ⟨rfl, rfl⟩ := h
              obtain ⟨h1, h2⟩ := ih _ _ _ _ _ he hp hB
              refine ⟨h1, fun j q n hh hq => ?_⟩
              rw [recall_app] at hh
              split at hh
              · exact h2 j q n hh hq
              · split at hh
                · rename_i hk
                  injection hk with hk1 hk2
                  subst hk1 hk2
                  injection hh with hh
                  cases o' with
                  | none => cases hh
                  | some to =>
                    have := h1 to rfl
                    injection hh with hh
                    have hh' : to - p = n := hh
                    omega
                · cases hh
    | seq es n =>
      cases es with
      | nil =>
        simp only [pk, Option.some.injEq, Prod.mk.injEq] at h
        obtain ⟨rfl, rfl⟩ := h
        exact ⟨fun to ht => by injection ht with ht; omega, hB⟩
      | cons e es =>
        simp only [pk] at h
        cases he : pk g s hook m (.try_ e n) p σ with
        | none => rw [he] at h; cases h
        | some x =>
          obtain ⟨o', σ'⟩ := x
          rw [he] at h
          obtain ⟨h1, h2⟩ := ih _ _ _ _ _ he hp hB
          cases o' with
          | none =>
            simp only [Option.some.injEq, Prod.mk.injEq] at h
            obtain ⟨rfl, rfl⟩ := h
            exact ⟨h1, h2⟩
          | some to => exact ih _ _ _ _ _ h (h1 to rfl) h2
    | alt es n =>
      cases es with
      | nil =>
        simp only [pk, Option.some.injEq, Prod.mk.injEq] at h
        obtain ⟨rfl, rfl⟩ := h
        exact ⟨fun to ht => (by cases ht), hB⟩
      | cons e es =>
        simp only [pk] at h
        cases he : pk g s hook m (.try_ e n) p σ with
        | none => rw [he] at h; cases h
        | some x =>
          obtain ⟨o', σ'⟩ := x
          rw [he] at h
          obtain ⟨h1, h2⟩ := ih _ _ _ _ _ he hp hB
          cases o' with
          | some to =>
            simp only [Option.some.injEq, Prod.mk.injEq] at h
            obtain ⟨rfl, rfl⟩ := h
            exact ⟨h1, h2⟩
          | none => exact ih _ _ _ _ _ h hp h2
    | rep e n =>
      simp only [pk] at h
      cases he : pk g s hook m (.try_ e n) p σ with
      | none => rw [he] at h; cases h
      | some x =>
        obtain ⟨o', σ'⟩ := x
        rw [he] at h
        obtain ⟨h1, h2⟩ := ih _ _ _ _ _ he hp hB
        cases o' with
        | none =>
          simp only [Option.some.injEq, Prod.mk.injEq] at h
          obtain ⟨rfl, rfl⟩ := h
          exact ⟨fun to ht => by injection ht with ht; omega, h2⟩
        | some to => exact ih _ _ _ _ _ h (h1 to rfl) h2
    | one k e n =>
      simp only [pk] at h
      cases he : pk g s hook m (.try_ e (n + 1)) p σ with
      | none => rw [he] at h; cases h
      | some x =>
        obtain ⟨o', σ'⟩ := x
        rw [he] at h
        obtain ⟨h1, h2⟩ := ih _ _ _ _ _ he hp hB
        cases o' with
        | none =>
          simp only [Option.some.injEq, Prod.mk.injEq] at h
          obtain ⟨rfl, rfl⟩ := h
          refine ⟨fun to ht => ?_, h2⟩
          split at ht
          · cases ht
          · injection ht with ht; omega
        | some to =>
          simp only at h
          split at h
          · simp only [Option.some.injEq, Prod.mk.injEq] at h
            obtain ⟨rfl, rfl⟩ := h
            exact ⟨fun to ht => by injection ht with ht; omega, h2⟩
          · split at h
            · simp only [Option.some.injEq, Prod.mk.injEq] at h
              obtain ⟨rfl, rfl⟩ := h
              exact ⟨fun to ht => (by cases ht), h2⟩
            · split at h
              · simp only [Option.some.injEq, Prod.mk.injEq] at h
                obtain ⟨rfl, rfl⟩ := h
                exact ⟨h1, h2⟩
              · exact ih _ _ _ _ _ h (h1 to rfl) h2
    | node e n =>
      obtain ⟨k, a, b, c, d, t, ks⟩ := e
      rw [pk_node] at h
      split at h
      · simp only [Option.some.injEq, Prod.mk.injEq] at h
        obtain ⟨rfl, rfl⟩ := h
        exact ⟨fun to ht => by injection ht with ht; omega, hB⟩
      split at h
      · split at h
        · rename_i hc
          simp only [Option.some.injEq, Prod.mk.injEq] at h
          obtain ⟨rfl, rfl⟩ := h
          exact ⟨fun to ht => by injection ht with ht; omega, hB⟩
        · simp only [Option.some.injEq, Prod.mk.injEq] at h
          obtain ⟨rfl, rfl⟩ := h
          exact ⟨fun to ht => (by cases ht), hB.of_eq (missS_seen _ _ _)⟩
      split at h
      · split at h
        · rename_i hc
          simp only [Option.some.injEq, Prod.mk.injEq] at h
          obtain ⟨rfl, rfl⟩ := h
          have := litAt_le hc hp
          exact ⟨fun to ht => by injection ht with ht; subst ht; simpa using this, hB⟩
        · simp only [Option.some.injEq, Prod.mk.injEq] at h
          obtain ⟨rfl, rfl⟩ := h
          exact ⟨fun to ht => (by cases ht), hB.of_eq (missS_seen _ _ _)⟩
      split at h
      · exact ih _ _ _ _ _ h hp hB
      split at h
      · exact ih _ _ _ _ _ h hp hB
      split at h
      · exact ih _ _ _ _ _ h hp hB
      cases ks with
      | nil => cases h
      | cons e es => exact ih _ _ _ _ _ h hp hB
end Go.Proofs.YtndhbdbfjkmloaaGreatDoor
namespace Go.Proofs.YtndhbdbfjkmloaaGreatDoor
open Go.ChangeShapes Go.WideShapes Go.ChangeAt Go.RowKit

theorem I64_of_wf {z : Int} (h : (Lit.int .i64 z).wf = true) : I64 z := by
  simpa [I64, Lit.wf, IntKind.min, IntKind.max, IntKind.signed, IntKind.bits] using h

end Go.Proofs.YtndhbdbfjkmloaaGreatDoor
namespace Go.Proofs.YtndhbdbfjkmloaaGreatDoor
open Go.RowKit

def U64 (x : Int) : Prop := 0 ≤ x ∧ x < 18446744073709551616
theorem U64.nat {x : Int} (h : U64 x) : ∃ v : BitVec 64, x = (v.toNat : Int) := by
  obtain ⟨n, rfl⟩ := Int.eq_ofNat_of_zero_le h.1
  refine ⟨BitVec.ofNat 64 n, ?_⟩
  have := h.2
  rw [BitVec.toNat_ofNat, Nat.mod_eq_of_lt (by omega)]
theorem orU_bv (u v : BitVec 64) : orU (u.toNat : Int) (v.toNat : Int) = ((u ||| v).toNat : Int) := by
  unfold orU; rw [u64_or_nat _ _ u.isLt v.isLt, BitVec.toNat_or]
theorem andU_bv (u v : BitVec 64) : andU (u.toNat : Int) (v.toNat : Int) = ((u &&& v).toNat : Int) := by
  unfold andU; rw [u64_and_nat _ _ u.isLt v.isLt, BitVec.toNat_and]
theorem U64.or {x y : Int} (hx : U64 x) (hy : U64 y) : U64 (orU x y) := by
  obtain ⟨u, rfl⟩ := hx.nat; obtain ⟨v, rfl⟩ := hy.nat
  rw [orU_bv]; exact ⟨by omega, by have := (u ||| v).isLt; omega⟩
theorem U64.and {x y : Int} (hx : U64 x) (hy : U64 y) : U64 (andU x y) := by
  obtain ⟨u, rfl⟩ := hx.nat; obtain ⟨v, rfl⟩ := hy.nat
  rw [andU_bv]; exact ⟨by omega, by have := (u &&& v).isLt; omega⟩
end Go.Proofs.YtndhbdbfjkmloaaGreatDoor
namespace Go.Proofs.YtndhbdbfjkmloaaGreatDoor
open Go.ChangeShapes Go.WideShapes Go.ChangeAt Go.RowKit

theorem U64_of_wf {z : Int} (h : (Lit.int .u64 z).wf = true) : U64 z := by
  have : 0 ≤ z ∧ z ≤ 18446744073709551615 := by simpa [Lit.wf, IntKind.min, IntKind.max, IntKind.signed, IntKind.bits] using h
  exact ⟨this.1, by omega⟩

/-- four cells that read as a set -/
theorem trod_set {H : Type} {enc : TypeId × Value → H} {P : Program} {W : World} {base : Nat} {sp : Nat → Bool} {held : Bool} {t e : TypeId} {fuel : Nat} {cs : List Value} {x : DataW H × List MemPlace}
    (ht : P.underlying t = some (.array 4 e)) (he : P.underlying e = some (.int .u64)) (hc : P.cellsOf e = 1) (hct : P.cellsOf t = 4) (h : DataW.trod enc P W base sp held fuel t cs = some x) :
    ∃ a b c d, cs = [.int .u64 a, .int .u64 b, .int .u64 c, .int .u64 d] ∧ U64 a ∧ U64 b ∧ U64 c ∧ U64 d := by
  obtain ⟨xs, m, _, _, hl, hx, hi⟩ := DataW.trod_array ht h
  rw [hct] at hl
  match cs, hl with
  | [v0, v1, v2, v3], _ =>
    match xs, hx with
    | [y0, y1, y2, y3], _ =>
      have g0 := hi 0 (by omega)
      have g1 := hi 1 (by omega)
      have g2 := hi 2 (by omega)
      have g3 := hi 3 (by omega)
      rw [hc] at g0 g1 g2 g3
      obtain ⟨a, ha, _, wa⟩ := DataW.trod_int he g0
      obtain ⟨b, hb, _, wb⟩ := DataW.trod_int he g1
      obtain ⟨c, hc, _, wc⟩ := DataW.trod_int he g2
      obtain ⟨d, hd, _, wd⟩ := DataW.trod_int he g3
      simp at ha hb hc hd
      subst ha hb hc hd
      exact ⟨a, b, c, d, rfl, U64_of_wf wa, U64_of_wf wb, U64_of_wf wc, U64_of_wf wd⟩

end Go.Proofs.YtndhbdbfjkmloaaGreatDoor
namespace Go.Proofs.YtndhbdbfjkmloaaGreatDoor
open Go.ChangeShapes Go.WideShapes Go.ChangeAt Go.RowKit

theorem ex_fields : (Tryz.prog.underlying 66).map (fun u => match u with | .struct fs => fs.toList.map (fun f => (f.type, f.offset)) | _ => []) = some [(3, 0), (63, 1), (9, 5), (64, 6)] := by kernel_rfl
theorem ex_cells : Tryz.prog.cellsOf 66 = 7 := by kernel_rfl

theorem seven_of {cs : List Value} (h : cs.length = 7) : ∃ c0 c1 c2 c3 c4 c5 c6, cs = [c0, c1, c2, c3, c4, c5, c6] := by
  match cs, h with
  | [c0, c1, c2, c3, c4, c5, c6], _ => exact ⟨c0, c1, c2, c3, c4, c5, c6, rfl⟩
theorem eight_of {cs : List Value} (h : cs.length = 8) : ∃ c0 c1 c2 c3 c4 c5 c6 c7, cs = [c0, c1, c2, c3, c4, c5, c6, c7] := by
  match cs, h with
  | [c0, c1, c2, c3, c4, c5, c6, c7], _ => exact ⟨c0, c1, c2, c3, c4, c5, c6, c7, rfl⟩
theorem row_of {α : Type} [Inhabited α] {n : Nat} {p : Nat → α → Prop} (h : ∀ i, i < n → ∃ x, p i x) : ∃ f : Nat → α, ∀ i, i < n → p i (f i) := by
  have h' : ∀ i, ∃ x, i < n → p i x := fun i => by
    by_cases hi : i < n
    · obtain ⟨x, hx⟩ := h i hi
      exact ⟨x, fun _ => hx⟩
    · exact ⟨default, fun h => absurd h hi⟩
  exact ⟨fun i => (h' i).choose, fun i hi => (h' i).choose_spec hi⟩

end Go.Proofs.YtndhbdbfjkmloaaGreatDoor
namespace Go.Proofs.YtndhbdbfjkmloaaGreatDoor
open Go.ChangeShapes Go.WideShapes Go.ChangeAt Go.RowKit

/-- all numbers of an expression are of their width -/
inductive WfE : Ex → Prop
  | mk (k a b c d : Int) (t : ByteArray) (ks : List Ex) : I64 k → U64 a → U64 b → U64 c → U64 d → (∀ e ∈ ks, WfE e) → WfE (.mk k a b c d t ks)

set_option maxRecDepth 100000 in
theorem trod_exw {H : Type} {enc : TypeId × Value → H} {W : World} : ∀ (fuel : Nat) {cs : List Value} {x : DataW H × List MemPlace},
    DataW.trod enc Tryz.prog W 0 (fun _ => true) true fuel 66 cs = some x → ∃ e, ExIs W W.heap.size e cs ∧ WfE e := by
  intro fuel
  induction fuel using Nat.strongRecOn with
  | _ fuel ih =>
    intro cs x h
    obtain ⟨u, hu, hf⟩ := Option.map_eq_some_iff.1 ex_fields
    match u, hf with
    | .struct fs, hf =>
      obtain ⟨xs, n, rfl, _, hl, hlen, hget⟩ := DataW.trod_struct hu h
      rw [ex_cells] at hl
      have hf' : fs.toList.map (fun f => (f.type, f.offset)) = [(3, 0), (63, 1), (9, 5), (64, 6)] := hf
      have hfl : fs.toList.length = 4 := by have := congrArg List.length hf'; simpa using this
      have at_ : ∀ (i : Nat) (t o : Nat), [(3, 0), (63, 1), (9, 5), (64, 6)][i]? = some (t, o) → ∃ y, DataW.trod enc Tryz.prog W 0 (fun _ => true) true n t ((cs.drop o).take (Tryz.prog.cellsOf t)) = some y := by
        intro i t o hi
        rw [← hf', List.getElem?_map, Option.map_eq_some_iff] at hi
        obtain ⟨f, hf1, hf2⟩ := hi
        have hg := hget i f (by simpa using hf1)
        injection hf2 with e1 e2
        subst e1 e2
        have : i < xs.length := by
          have h3 := getElem?_lt hf1
          rw [hfl] at h3
          have h4 : fs.size = 4 := by simpa using hfl
          rw [hlen, h4]
          exact h3
        rw [List.getElem?_eq_getElem this] at hg
        exact ⟨_, hg⟩
      obtain ⟨y0, h0⟩ := at_ 0 _ _ rfl
      obtain ⟨y1, h1⟩ := at_ 1 _ _ rfl
      obtain ⟨y2, h2⟩ := at_ 2 _ _ rfl
      obtain ⟨y3, h3⟩ := at_ 3 _ _ rfl
      rw [show Tryz.prog.cellsOf 3 = 1 from by kernel_rfl] at h0
      rw [show Tryz.prog.cellsOf 63 = 4 from by kernel_rfl] at h1
      rw [show Tryz.prog.cellsOf 9 = 1 from by kernel_rfl] at h2
      rw [show Tryz.prog.cellsOf 64 = 1 from by kernel_rfl] at h3
      obtain ⟨k, e0, _, wk⟩ := DataW.trod_int Tryz.underlying3 h0
      obtain ⟨a, b, c, d, e1, wa, wb, wc, wd⟩ := trod_set Tryz.underlying63 Tryz.underlying45 (by kernel_rfl) (by kernel_rfl) h1
      obtain ⟨t, e2, _, wt⟩ := DataW.trod_string Tryz.underlying9 h2
      have wk' := I64_of_wf wk
      obtain ⟨c0, c1, c2, c3, c4, c5, c6, rfl⟩ := seven_of hl
      simp at e0 e1 e2
      subst e0 e2
      obtain ⟨rfl, rfl, rfl, rfl⟩ := e1
      rcases DataW.trod_slice Tryz.underlying64 h3 with ⟨e3, _⟩ | ⟨ad, len, cap, elems, rest, m, e4, e3, _, _, hlc, hcm, hel, hk, _⟩
      · simp at e3
        subst e3
        exact ⟨.mk k a b c d t [], .mk k a b c d t [] none 0 (fun _ => []) wt (by simp) (by unfold maxLen; omega) (fun _ => rfl) (fun h => by simp at h) (fun i e h => by simp at h) (fun i e ad h => by simp at h), .mk _ _ _ _ _ _ _ wk' wa wb wc wd (fun e he => by cases he)⟩
      · simp at e3
        subst e3
        have hk' : ∀ i, i < len → ∃ r : Ex × List Value, (ExIs W W.heap.size r.1 r.2 ∧ WfE r.1) ∧ ad.block < W.heap.size ∧ ∀ j u, r.2[j]? = some u → W.cell? ((ad.add (i * 7)).add j) = some u := by
          intro i hi
          have hg := hk i hi
          rw [List.getElem?_eq_getElem (by omega), ex_cells] at hg
          obtain ⟨ci, hc1, hc2⟩ := Option.bind_eq_some_iff.1 hg
          obtain ⟨e, he⟩ := ih m (by omega) hc2
          obtain ⟨_, hc3, hc4⟩ := World.cells?_some hc1
          have hb := World.block_lt_of_cell? W _ ((hc4 0 (by omega)).trans (List.getElem?_eq_getElem (by omega)))
          rw [add_block, add_block] at hb
          refine ⟨(e, ci), he, hb, fun j u hu => ?_⟩
          rw [hc4 j (by have := getElem?_lt hu; simp at this; omega)]
          exact hu
        obtain ⟨f, hf⟩ := @row_of (Ex × List Value) ⟨(.mk 0 0 0 0 0 ⟨#[]⟩ [], [])⟩ _ _ hk'
        have hlen' : ((List.range len).map fun i => (f i).1).length = len := by simp
        have hget : ∀ i e, ((List.range len).map fun i => (f i).1)[i]? = some e → i < len ∧ e = (f i).1 := by
          intro i e he
          have hi := getElem?_lt he
          rw [hlen'] at hi
          simp [hi] at he
          exact ⟨hi, he.symm⟩
        have hx := ExIs.mk (w := W) (B := W.heap.size) k a b c d t ((List.range len).map fun i => (f i).1) (some ad) cap (fun i => (f i).2) wt (by rw [hlen']; exact hlc) hcm (fun h => by cases h)
          (fun h => ⟨ad, rfl, (hf 0 (by rw [hlen'] at h; exact h)).2.1⟩) (fun i e he => by obtain ⟨hi, rfl⟩ := hget i e he; exact (hf i hi).1.1)
          (fun i e ad' he hA j u hu => by obtain ⟨hi, rfl⟩ := hget i e he; injection hA with hA; subst hA; exact (hf i hi).2.2 j u hu)
        rw [hlen'] at hx
        refine ⟨_, hx, .mk _ _ _ _ _ _ _ wk' wa wb wc wd fun e he => ?_⟩
        obtain ⟨i, hi⟩ := List.getElem?_of_mem he
        obtain ⟨hi', rfl⟩ := hget i e hi
        exact (hf i hi').1.2

theorem rule_fields : (Tryz.prog.underlying 68).map (fun u => match u with | .struct fs => fs.toList.map (fun f => (f.type, f.offset)) | _ => []) = some [(9, 0), (66, 1)] := by kernel_rfl
theorem rule_cells : Tryz.prog.cellsOf 68 = 8 := by kernel_rfl
theorem gram_fields : (Tryz.prog.underlying 24).map (fun u => match u with | .struct fs => fs.toList.map (fun f => (f.type, f.offset)) | _ => []) = some [(22, 0)] := by kernel_rfl
theorem gram_cells : Tryz.prog.cellsOf 24 = 1 := by kernel_rfl

set_option maxRecDepth 100000 in
theorem trod_rule {H : Type} {enc : TypeId × Value → H} {W : World} {fuel : Nat} {cs : List Value} {x : DataW H × List MemPlace}
    (h : DataW.trod enc Tryz.prog W 0 (fun _ => true) true fuel 68 cs = some x) : ∃ (r : Rl) (row : List Value), cs = .string r.1 :: row ∧ r.1.size ≤ maxLen ∧ ExIs W W.heap.size r.2 row ∧ WfE r.2 := by
  obtain ⟨u, hu, hf⟩ := Option.map_eq_some_iff.1 rule_fields
  match u, hf with
  | .struct fs, hf =>
    obtain ⟨xs, n, rfl, _, hl, hlen, hget⟩ := DataW.trod_struct hu h
    rw [rule_cells] at hl
    have hf' : fs.toList.map (fun f => (f.type, f.offset)) = [(9, 0), (66, 1)] := hf
    have hfl : fs.toList.length = 2 := by have := congrArg List.length hf'; simpa using this
    have at_ : ∀ (i : Nat) (t o : Nat), [(9, 0), (66, 1)][i]? = some (t, o) → ∃ y, DataW.trod enc Tryz.prog W 0 (fun _ => true) true n t ((cs.drop o).take (Tryz.prog.cellsOf t)) = some y := by
      intro i t o hi
      rw [← hf', List.getElem?_map, Option.map_eq_some_iff] at hi
      obtain ⟨f, hf1, hf2⟩ := hi
      have hg := hget i f (by simpa using hf1)
      injection hf2 with e1 e2
      subst e1 e2
      have : i < xs.length := by
        have h3 := getElem?_lt hf1
        rw [hfl] at h3
        have h4 : fs.size = 2 := by simpa using hfl
        rw [hlen, h4]
        exact h3
      rw [List.getElem?_eq_getElem this] at hg
      exact ⟨_, hg⟩
    obtain ⟨y0, h0⟩ := at_ 0 _ _ rfl
    obtain ⟨y1, h1⟩ := at_ 1 _ _ rfl
    rw [show Tryz.prog.cellsOf 9 = 1 from by kernel_rfl] at h0
    rw [ex_cells] at h1
    obtain ⟨s, e0, _, wt⟩ := DataW.trod_string Tryz.underlying9 h0
    obtain ⟨e, he, hw⟩ := trod_exw _ h1
    obtain ⟨c0, c1, c2, c3, c4, c5, c6, c7, rfl⟩ := eight_of hl
    simp at e0
    subst e0
    exact ⟨(s, e), _, rfl, wt, he, hw⟩
set_option maxRecDepth 100000 in
theorem open_gram {H : Type} {enc : TypeId × Value → H} {W : World} {v : Value} {d : DataW H} {p : List MemPlace} (hv : ∃ cs, v = .agg cs ∧ cs.size = Tryz.prog.cellsOf 24)
    (h : DataW.Trod enc Tryz.prog W 0 (fun _ => true) true 24 v d p) :
    ∃ (g : List Rl) (A : Option Addr) (cp : Nat) (row : Nat → List Value), v = .agg #[.slice A g.length cp] ∧ GrIs W W.heap.size g A cp row ∧ ∀ r ∈ g, WfE r.2 := by
  obtain ⟨ca, rfl, hsize⟩ := hv
  obtain ⟨fuel, h⟩ := h
  obtain ⟨u, hu, hf⟩ := Option.map_eq_some_iff.1 gram_fields
  match u, hf with
  | .struct fs, hf =>
    obtain ⟨xs, n, rfl, _, hl, hlen, hget⟩ := DataW.trod_struct hu h
    rw [gram_cells] at hl hsize
    have hf' : fs.toList.map (fun f => (f.type, f.offset)) = [(22, 0)] := hf
    have hfl : fs.toList.length = 1 := by have := congrArg List.length hf'; simpa using this
    match hfs : fs.toList, hf', hfl with
    | [f], hf', hfl =>
      simp only [List.map_cons, List.map_nil, List.cons.injEq, Prod.mk.injEq, and_true] at hf'
      have hg := hget 0 f (by
        have : fs.toList[0]? = some f := by rw [hfs]; rfl
        simpa using this)
      have hfsz : fs.size = 1 := by have := congrArg List.length hfs; simpa using this
      have : 0 < xs.length := by rw [hlen, hfsz]; omega
      rw [List.getElem?_eq_getElem this, hf'.1, hf'.2] at hg
      rw [show Tryz.prog.cellsOf 22 = 1 from by kernel_rfl] at hg
      have hcs : ∃ c0, ca = #[c0] := by
        match ca, hsize with
        | ⟨[c0]⟩, _ => exact ⟨c0, rfl⟩
      obtain ⟨c0, rfl⟩ := hcs
      have hcl : (Value.agg #[c0]).cells.toList = [c0] := rfl
      rw [hcl] at hg
      rcases DataW.trod_slice Tryz.underlying22 hg with ⟨e3, _⟩ | ⟨ad, len, cap, elems, rest, m, e4, e3, _, _, hlc, hcm, hel, hk, _⟩
      · simp at e3
        subst e3
        exact ⟨[], none, 0, fun _ => [], rfl, ⟨by simp, by unfold maxLen; omega, fun _ => rfl, fun h => by simp at h, fun i r h => by simp at h, fun i r h => by simp at h, fun i r ad h => by simp at h, fun i r ad h => by simp at h⟩, fun r h => by cases h⟩
      · simp at e3
        subst e3
        have hk' : ∀ i, i < len → ∃ r : Rl × List Value, (r.1.1.size ≤ maxLen ∧ ExIs W W.heap.size r.1.2 r.2 ∧ WfE r.1.2) ∧ ad.block < W.heap.size ∧ W.cell? (ad.add (i * 8)) = some (.string r.1.1) ∧ ∀ j u, r.2[j]? = some u → W.cell? ((ad.add (i * 8)).add (j + 1)) = some u := by
          intro i hi
          have hg := hk i hi
          rw [List.getElem?_eq_getElem (by omega), rule_cells] at hg
          obtain ⟨ci, hc1, hc2⟩ := Option.bind_eq_some_iff.1 hg
          obtain ⟨r, row, rfl, he⟩ := trod_rule hc2
          obtain ⟨hcl, hc3, hc4⟩ := World.cells?_some hc1
          have hb := World.block_lt_of_cell? W _ ((hc4 0 (by omega)).trans (List.getElem?_eq_getElem (by simp)))
          rw [add_block, add_block] at hb
          refine ⟨(r, row), he, hb, (hc4 0 (by omega)).trans rfl, fun j u hu => ?_⟩
          have h8 : row.length = 7 := by simpa using hc3
          rw [hc4 (j + 1) (by have : j < row.length := getElem?_lt hu; omega)]
          exact hu
        obtain ⟨f, hf⟩ := @row_of (Rl × List Value) ⟨((⟨#[]⟩, .mk 0 0 0 0 0 ⟨#[]⟩ []), [])⟩ _ _ hk'
        have hlen' : ((List.range len).map fun i => (f i).1).length = len := by simp
        have hget : ∀ i e, ((List.range len).map fun i => (f i).1)[i]? = some e → i < len ∧ e = (f i).1 := by
          intro i e he
          have hi := getElem?_lt he
          rw [hlen'] at hi
          simp [hi] at he
          exact ⟨hi, he.symm⟩
        refine ⟨(List.range len).map fun i => (f i).1, some ad, cap, fun i => (f i).2, by rw [hlen'], ⟨by rw [hlen']; exact hlc, hcm, fun h => (by cases h), fun h => ⟨ad, rfl, (hf 0 (by rw [hlen'] at h; exact h)).2.1⟩, fun i r hr => ?_, fun i r hr => ?_, fun i r ad' hr hA => ?_, fun i r ad' hr hA j u hu => ?_⟩, fun r hr => ?_⟩
        · obtain ⟨hi, rfl⟩ := hget i r hr; exact (hf i hi).1.1
        · obtain ⟨hi, rfl⟩ := hget i r hr; exact (hf i hi).1.2.1
        · obtain ⟨hi, rfl⟩ := hget i r hr; injection hA with hA; subst hA; exact (hf i hi).2.2.1
        · obtain ⟨hi, rfl⟩ := hget i r hr; injection hA with hA; subst hA; exact (hf i hi).2.2.2 j u hu
        · obtain ⟨i, hi⟩ := List.getElem?_of_mem hr
          obtain ⟨hi', rfl⟩ := hget i r hi
          exact (hf i hi').1.2.2
end Go.Proofs.YtndhbdbfjkmloaaGreatDoor
namespace Go.Proofs.YtndhbdbfjkmloaaGreatDoor
open Go.RowKit Go.Maps

/-- right, and its numbers of their width -/
def RtW (g : List Rl) (e : Ex) : Prop := Rt g e ∧ WfE e
/-- what is handed back: how far, and whether -/
def Ret (o : Option Nat) (e : Ending) : Prop := ∃ z : Int, e = .returned (.tuple #[.int .i64 z, .bool o.isSome]) ∧ ∀ to, o = some to → z = (to : Int)
def Went (c : PC) (w : World) (r : Option Nat × PS) (e : Ending) (w' : World) : Prop := Ret r.1 e ∧ Par c w' r.2 ∧ Keeps c w w'
/-- nodes do what the plain parser does, at this fuel -/
def DoesNode (c : PC) (g : List Rl) (m : Nat) : Prop := ∀ (e : Ex) (num p : Nat) (σ : PS) (r : Option Nat × PS) (cs : List Value) (w : World), pk g c.s.data.toList c.hk m (.node e num) p σ = some r → ExIs w c.B e cs → RtW g e → num + nodes e ≤ c.lim → p ≤ c.s.data.toList.length → Bound c.s.data.toList.length σ → Par c w σ →
  Calls Tryz.prog 59 #[.pointer (some ⟨c.P, 0, none⟩), .agg cs.toArray, .int .i64 num, .int .i64 p] w (Went c w r)
def DoesTry (c : PC) (g : List Rl) (m : Nat) : Prop := ∀ (e : Ex) (num p : Nat) (σ : PS) (r : Option Nat × PS) (cs : List Value) (w : World), pk g c.s.data.toList c.hk m (.try_ e num) p σ = some r → ExIs w c.B e cs → RtW g e → num + nodes e ≤ c.lim → p ≤ c.s.data.toList.length → Bound c.s.data.toList.length σ → Par c w σ →
  Calls Tryz.prog 43 #[.pointer (some ⟨c.P, 0, none⟩), .agg cs.toArray, .int .i64 num, .int .i64 p] w (Went c w r)

theorem run_nofn (w : World) : Sem.run Tryz.prog (binOp BinOp.neq 75 Value.nilFunc Value.nilFunc) w = .ok (.bool false) w := by kernel_rfl

set_option maxRecDepth 100000 in
set_option maxHeartbeats 4000000 in
theorem try_none {c : PC} (hok : c.Ok) (hh0 : c.hk = false) (hh : c.hook = .nilFunc) {g : List Rl} {m : Nat} (hN : DoesNode c g m) : DoesTry c g (m + 1) := by
  intro e num p σ r cs w hpk hE hR hnum hp hB h
  have hrf := run_nofn
  have hsz := h.size
  have hb1 := hok.Bb
  obtain ⟨k, a, b, d1, d2, t, A, n, cp, rfl⟩ := e.parts hE
  simp only [pk] at hpk
  cases hn : pk g c.s.data.toList c.hk m (.node e num) p σ with
  | none => rw [hn] at hpk; cases hpk
  | some r1 =>
    rw [hn] at hpk
    obtain ⟨o, σ1⟩ := r1
    have hr : r = (o, σ1) := by simp only [markS, hh0] at hpk; injection hpk with hpk; exact hpk.symm
    subst hr
    have hal : Below w.heap.size w (w.alloc (.cells #[.int .i64 k, .int .u64 a, .int .u64 b, .int .u64 d1, .int .u64 d2, .string t, .slice A n cp] 66)) := (Below.refl _ _).alloc (Nat.le_refl _) _
    have hcall := hN e num p σ (o, σ1) _ _ hn (hE.on (hal.mono (by omega))) hR hnum hp hB (h.below hok hal)
    have HC := Lib.hid hcall
    clear hcall hE hn
    go_enter Tryz.func43, Tryz.ntmps43
    go_wp2_with fail
    refine HC.out.mono ?_
    rintro e' w1 ⟨⟨z, rfl, hz⟩, h1, h2⟩
    have s9 : w1.cell? ⟨c.P, 9, none⟩ = some .nilFunc := by rw [← hh]; exact h1.c9
    go_wp2
    go_ret2
    exact ⟨⟨z, rfl, hz⟩, h1, (Keeps.of_below hal).trans h2⟩
def HookF (_ : PC) : Prop := False
theorem try_told {c : PC} (_ : c.Ok) (_ : c.hk = true) (hh : HookF c) {g : List Rl} {m : Nat} (_ : DoesNode c g m) : DoesTry c g (m + 1) := hh.elim
/-- no one is told, or cover's -/
def HookOk (c : PC) : Prop := (c.hk = false ∧ c.hook = .nilFunc) ∨ (c.hk = true ∧ HookF c)
theorem try_any {c : PC} (hok : c.Ok) (hh : HookOk c) {g : List Rl} {m : Nat} (hN : DoesNode c g m) : DoesTry c g (m + 1) := by
  rcases hh with hh | hh
  · exact try_none hok hh.1 hh.2 hN
  · exact try_told hok hh.1 hh.2 hN
theorem DoesTry.le {c : PC} {g : List Rl} {m m' : Nat} (h : DoesTry c g m) (hm : m' ≤ m) : DoesTry c g m' := fun e num p σ r cs w hpk => h e num p σ r cs w (pk_le hpk hm)
theorem DoesNode.le {c : PC} {g : List Rl} {m m' : Nat} (h : DoesNode c g m) (hm : m' ≤ m) : DoesNode c g m' := fun e num p σ r cs w hpk => h e num p σ r cs w (pk_le hpk hm)
end Go.Proofs.YtndhbdbfjkmloaaGreatDoor
namespace Go.Proofs.YtndhbdbfjkmloaaGreatDoor
open Go.RowKit Go.Maps

set_option maxRecDepth 100000 in
set_option maxHeartbeats 8000000 in
theorem seq_any {c : PC} (hok : c.Ok) {g : List Rl} {m : Nat} (hT : DoesTry c g m) (k a b d1 d2 : Int) (t : ByteArray) (ks : List Ex) (num p : Nat) (σ : PS) (r : Option Nat × PS) (cs : List Value) (w : World)
    (hpk : pk g c.s.data.toList c.hk m (.seq ks (num + 1)) p σ = some r) (hE : ExIs w c.B (.mk k a b d1 d2 t ks) cs) (hR : ∀ e ∈ ks, RtW g e) (hnum : num + 1 + nodesAll ks ≤ c.lim) (hp : p ≤ c.s.data.toList.length) (hB : Bound c.s.data.toList.length σ) (h : Par c w σ) :
    Calls Tryz.prog 79 #[.pointer (some ⟨c.P, 0, none⟩), .agg cs.toArray, .int .i64 num, .int .i64 p] w (Went c w r) := by
  have hsz := h.size
  have hb1 := hok.Bb
  have hb2 := hok.BP
  have hb3 := hok.BM
  obtain ⟨ht, KA, kcp, rfl, hkc, hkm, _⟩ := hE.shape
  unfold exCells
  have hal : Below w.heap.size w (w.alloc (.cells #[.int .i64 k, .int .u64 a, .int .u64 b, .int .u64 d1, .int .u64 d2, .string t, .slice KA ks.length kcp] 66)) := (Below.refl _ _).alloc (Nat.le_refl _) _
  have hpar := h.below hok hal
  have hkp : Keeps c w (w.alloc (.cells #[.int .i64 k, .int .u64 a, .int .u64 b, .int .u64 d1, .int .u64 d2, .string t, .slice KA ks.length kcp] 66)) := Keeps.of_below hal
  have hm8 : ks.length ≤ 9223372036854775807 := by unfold maxLen at hkm; omega
  have hnum' : num + 1 + nodesAll ks ≤ c.lim := hnum
  have hlim := hok.lim
  have HE := Lib.hid hE
  have HT := Lib.hid hT
  have HPK := Lib.hid hpk
  have HRR := Lib.hid hR
  have HB := Lib.hid hB
  clear hE hT hpk hR hB hnum
  go_enter Tryz.func79, Tryz.ntmps79
  go_wp2
  go_loopw [3, 10, 20] (fun q n i wr => ∃ j q' n' : Nat, ∃ σ' : PS, j ≤ ks.length ∧ i = .int .i64 j ∧ q = .int .i64 q' ∧ n = .int .i64 n' ∧ n' + nodesAll (ks.drop j) ≤ c.lim ∧ q' ≤ c.s.data.toList.length ∧ Hid (pk g c.s.data.toList c.hk m (.seq (ks.drop j) n') q' σ' = some r) ∧ Hid (Bound c.s.data.toList.length σ') ∧ Par c wr σ' ∧ Keeps c w wr) (fun _ _ i _ => ks.length - (intOf i).toNat)
  case atStart => exact ⟨0, p, num + 1, σ, by omega, rfl, rfl, by go_num, hnum', hp, HPK, HB, hpar, hkp⟩
  case round =>
    clear hpar hkp h hp
    obtain ⟨j, q, n, σ', hj, rfl, rfl, rfl, hn, hq, HP, HB', hpar', hk'⟩ := hrel
    have hzr := hk'.size
    by_cases hjk : j < ks.length
    · have hbw : Below c.B w wr := hk'.below (by omega) hb2 hb3 hb1
      obtain ⟨ad, k', a', b', c', d', t', ks', A', cp', rfl, hab, hej, hE', ⟨e0, e1, e2, e3, e4, e5, e6⟩⟩ := (HE.out.on hbw).kid hjk
      have hpk' := HP.out
      rw [drop_of hej] at hpk' hn
      rw [nodesAll] at hn
      cases m with
      | zero => cases hpk'
      | succ m' =>
      simp only [pk] at hpk'
      cases he : pk g c.s.data.toList c.hk m' (.try_ (.mk k' a' b' c' d' t' ks') n) q σ' with
      | none => rw [he] at hpk'; cases hpk'
      | some r1 =>
      obtain ⟨o, σ1⟩ := r1
      rw [he] at hpk'
      have hbd := pk_bound _ _ _ _ _ _ _ _ _ he hq HB'.out
      have hcall := fun W (hW : Below wr.heap.size wr W) => HT.out.le (Nat.le_succ m') _ n q σ' (o, σ1) _ W he (hE'.on (hW.mono (by omega))) (HRR.out _ (List.mem_of_getElem? hej)) (by omega) hq HB'.out (hpar'.below hok hW)
      have hcn := fun W (hW : Below c.B wr W) => countK_any _ _ W ((hE'.on hW).keep (by have := hW.size; omega) fun _ _ => rfl) (by omega)
      have HCN := Lib.hid hcn
      have HC := Lib.hid hcall
      have HPQ := Lib.hid hpk'
      have HBD := Lib.hid hbd
      clear hcn hcall hpk' hbd he hej hE' hpar'
      go_wp2_with fail
      refine (HC.out _ (by repeat (first | exact Below.refl _ _ | assumption | refine Below.drew ?_ | refine below_drewN ?_ _ | refine Below.alloc ?_ (by first | omega | (simp; omega) | simp) _ | refine Below.setCell ?_ (by first | omega | (simp; omega) | simp) _))).mono ?_
      rintro e' w2 ⟨⟨z, rfl, hz⟩, h1, h2⟩
      have hbx : Blk w2 wr.heap.size 66 #[.int .i64 k', .int .u64 a', .int .u64 b', .int .u64 c', .int .u64 d', .string t', .slice A' ks'.length cp'] := h2.box (blk_at rfl) (by decide) (by have := hok.P; omega) (by have := hok.M; omega)
      have hk2 : Keeps c w w2 := (hk'.alloc _).trans h2
      cases o with
      | none =>
        have hr : r = (none, σ1) := by have := HPQ.out; simp only [Option.some.injEq] at this; exact this.symm
        subst hr
        go_wp2
        go_ret2
        exact ⟨⟨0, rfl, fun to ht => by cases ht⟩, h1, hk2⟩
      | some to =>
        obtain rfl := hz to rfl
        have x0 : w2.cell? ⟨wr.heap.size, 0, none⟩ = some (.int .i64 k') := hbx.cell 0; have x1 : w2.cell? ⟨wr.heap.size, 1, none⟩ = some (.int .u64 a') := hbx.cell 1; have x2 : w2.cell? ⟨wr.heap.size, 2, none⟩ = some (.int .u64 b') := hbx.cell 2; have x3 : w2.cell? ⟨wr.heap.size, 3, none⟩ = some (.int .u64 c') := hbx.cell 3; have x4 : w2.cell? ⟨wr.heap.size, 4, none⟩ = some (.int .u64 d') := hbx.cell 4; have x5 : w2.cell? ⟨wr.heap.size, 5, none⟩ = some (.string t') := hbx.cell 5; have x6 : w2.cell? ⟨wr.heap.size, 6, none⟩ = some (.slice A' ks'.length cp') := hbx.cell 6
        have hbw2 : Below c.B wr w2 := ((Below.refl _ _).alloc (by omega) _).trans (h2.below (by simp; omega) hb2 hb3 hb1)
        go_wp2_with fail
        refine (HCN.out w2 hbw2).mono ?_
        rintro e' w3 ⟨rfl, hb3'⟩
        go_wp2
        go_roundw
        case rel => exact ⟨j + 1, to, n + nodes (.mk k' a' b' c' d' t' ks'), σ1, by omega, by go_num, rfl, by go_num, by omega, HBD.out.1 to rfl, Lib.hid (pk_le HPQ.out (Nat.le_succ _)), Lib.hid HBD.out.2, h1.below hok hb3', hk2.trans (Keeps.of_below hb3')⟩
        case measure => simp [intOf]; omega
    · obtain rfl : j = ks.length := by omega
      have hpk' := HP.out
      rw [List.drop_length] at hpk'
      have hr : r = (some q, σ') := by
        cases m with
        | zero => cases hpk'
        | succ m' => simp only [pk, Option.some.injEq] at hpk'; exact hpk'.symm
      subst hr
      go_wp2
      go_ret2
      exact ⟨⟨q, rfl, fun to ht => by injection ht with ht; rw [ht]⟩, hpar', hk'⟩
end Go.Proofs.YtndhbdbfjkmloaaGreatDoor
namespace Go.Proofs.YtndhbdbfjkmloaaGreatDoor
open Go.RowKit Go.Maps

/-- the least number of which something is so -/
noncomputable def leastN (p : Nat → Prop) : Nat := @ite _ (∃ n, p n ∧ ∀ k, p k → n ≤ k) (Classical.propDecidable _) (Classical.epsilon fun n => p n ∧ ∀ k, p k → n ≤ k) 0
theorem leastN_spec {p : Nat → Prop} (h : ∃ n, p n) : p (leastN p) ∧ ∀ k, p k → leastN p ≤ k := by
  have hm : ∃ n, p n ∧ ∀ k, p k → n ≤ k := by
    obtain ⟨n, hn⟩ := h
    induction n using Nat.strongRecOn with
    | _ n ih =>
      by_cases hk : ∃ k, k < n ∧ p k
      · obtain ⟨k, hk, hp⟩ := hk
        exact ih k hk hp
      · exact ⟨n, hn, fun k hp => Nat.le_of_not_lt fun h => hk ⟨k, h, hp⟩⟩
  unfold leastN
  rw [if_pos hm]
  exact Classical.epsilon_spec hm

/-- again and again: where it stands, with so much fuel -/
structure RepI (c : PC) (g : List Rl) (e : Ex) (num m : Nat) (r : Option Nat × PS) (w : World) (bk : Nat) (bc : Array Value) (f : Nat) (q : Nat) (σ' : PS) (wr : World) : Prop where
  le : f ≤ m
  pk : Hid (pk g c.s.data.toList c.hk f (.rep e num) q σ' = some r)
  pos : q ≤ c.s.data.toList.length
  bound : Bound c.s.data.toList.length σ'
  par : Par c wr σ'
  keeps : Keeps c w wr
  box : Blk wr bk 66 bc
def RepR (c : PC) (g : List Rl) (e : Ex) (num m : Nat) (r : Option Nat × PS) (w : World) (bk : Nat) (bc : Array Value) (v : Value) (wr : World) (f : Nat) : Prop := ∃ (q : Nat) (σ' : PS), v = .int .i64 q ∧ RepI c g e num m r w bk bc f q σ' wr

set_option maxRecDepth 100000 in
set_option maxHeartbeats 8000000 in
theorem single_any {c : PC} (hok : c.Ok) {g : List Rl} {m : Nat} (hT : DoesTry c g m) (k a b d1 d2 : Int) (t : ByteArray) (e : Ex) (num p : Nat) (σ : PS) (r : Option Nat × PS) (cs : List Value) (w : World) (h7 : 7 ≤ k) (h11 : k ≤ 11)
    (hpk : pk g c.s.data.toList c.hk m (.one k e num) p σ = some r) (hE : ExIs w c.B (.mk k a b d1 d2 t [e]) cs) (hR : RtW g e) (hnum : num + 1 + nodes e ≤ c.lim) (hp : p ≤ c.s.data.toList.length) (hB : Bound c.s.data.toList.length σ) (h : Par c w σ) :
    Calls Tryz.prog 80 #[.pointer (some ⟨c.P, 0, none⟩), .agg cs.toArray, .int .i64 num, .int .i64 p] w (Went c w r) := by
  have hsz := h.size
  have hb1 := hok.Bb
  have hb2 := hok.BP
  have hb3 := hok.BM
  have hbP := hok.P
  have hbM := hok.M
  obtain ⟨ht, KA, kcp, rfl, hkc, hkm, _⟩ := hE.shape
  have hkl : ([e] : List Ex).length = 1 := rfl
  rw [hkl] at hE hkc ⊢
  clear hkl
  unfold exCells
  obtain ⟨ad, k', a', b', c', d', t', ks', A', cp', rfl, hab, hej, hE', hS⟩ := hE.kid (j := 0) (by simp)
  obtain rfl : e = .mk k' a' b' c' d' t' ks' := by simpa using hej
  rw [Nat.zero_mul] at hS
  have hS1 : Seven w ad k' a' b' c' d' t' A' ks'.length cp' := hS
  have hsv := fun W (hW : Below c.B w W) => hS1.keep (w' := W) fun q hq => hW.cell (by rw [hq]; exact hab)
  have hal : Below w.heap.size w (w.alloc (.cells #[.int .i64 k, .int .u64 a, .int .u64 b, .int .u64 d1, .int .u64 d2, .string t, .slice (some ad) 1 kcp] 66)) := (Below.refl _ _).alloc (Nat.le_refl _) _
  have hpar := h.below hok hal
  have hkp : Keeps c w (w.alloc (.cells #[.int .i64 k, .int .u64 a, .int .u64 b, .int .u64 d1, .int .u64 d2, .string t, .slice (some ad) 1 kcp] 66)) := Keeps.of_below hal
  have hm8 : (1 : Nat) ≤ kcp := hkc
  unfold maxLen at hkm
  cases m with
  | zero => cases hpk
  | succ m =>
  simp only [pk] at hpk
  cases he : pk g c.s.data.toList c.hk m (.try_ (.mk k' a' b' c' d' t' ks') (num + 1)) p σ with
  | none => rw [he] at hpk; cases hpk
  | some r1 =>
  obtain ⟨o, σ1⟩ := r1
  rw [he] at hpk
  have hbd := pk_bound _ _ _ _ _ _ _ _ _ he hp hB
  have hE2 := hE'
  have hcall := fun (f q : Nat) (σ' : PS) (r1 : Option Nat × PS) (W : World) (hf : f ≤ m) (he : pk g c.s.data.toList c.hk f (.try_ (.mk k' a' b' c' d' t' ks') (num + 1)) q σ' = some r1) (hq : q ≤ c.s.data.toList.length) (hB' : Bound c.s.data.toList.length σ') (hPW : Par c W σ') (hKW : Keeps c w W) =>
    (hT.le (Nat.le_trans hf (Nat.le_succ m))) _ (num + 1) q σ' r1 _ W he (hE2.on (hKW.below (by omega) (by omega) (by omega) (by omega))) hR hnum hq hB' hPW
  have hc0 := hcall m p σ (o, σ1) _ (Nat.le_refl m) he hp hB hpar hkp
  unfold exCells at hcall hc0
  rw [show ((num + 1 : Nat) : Int) = (num : Int) + 1 by omega] at hcall hc0
  have hadl : ad.block < w.heap.size := by omega
  obtain ⟨s0, s1, s2, s3, s4, s5, s6⟩ := hS1
  have HC := Lib.hid hcall
  have HC0 := Lib.hid hc0
  have HPK := Lib.hid hpk
  have HBD := Lib.hid hbd
  have HSV := Lib.hid hsv
  have hnum' : num + 1 + nodes (.mk k' a' b' c' d' t' ks') ≤ 1000000000000 := Nat.le_trans hnum hok.lim
  generalize nodes (.mk k' a' b' c' d' t' ks') = nn at hnum'
  clear hE hE' hE2 hT hcall hc0 hpk hbd he hej hR hB h hp hS hsv hnum
  go_enter Tryz.func80, Tryz.ntmps80
  go_wp2_with fail
  refine HC0.out.mono ?_
  rintro e' w2 ⟨⟨z, rfl, hz⟩, h1, h2⟩
  have hbx : Blk w2 w.heap.size 66 #[.int .i64 k, .int .u64 a, .int .u64 b, .int .u64 d1, .int .u64 d2, .string t, .slice (some ad) 1 kcp] := h2.box (blk_at rfl) (by decide) (by omega) (by omega)
  have hk2 : Keeps c w w2 := hkp.trans h2
  have x0 : w2.cell? ⟨w.heap.size, 0, none⟩ = some (.int .i64 k) := hbx.cell 0
  clear s0 s1 s2 s3 s4 s5 s6
  have hk5 : k = 7 ∨ k = 8 ∨ k = 9 ∨ k = 10 ∨ k = 11 := by omega
  cases o with
  | none =>
    have hr : r = (if k = 8 ∨ k = 10 then none else some p, σ1) := by have := HPK.out; simp only [Option.some.injEq] at this; exact this.symm
    clear HC HPK HBD HSV hkp hpar hal HC0
    have hend : ∀ W, W = w2 ∨ W = w2.drew → Par c W σ1 ∧ Keeps c w W := fun W hW => by
      rcases hW with rfl | rfl
      · exact ⟨h1, hk2⟩
      · exact ⟨h1.drew, hk2.drew⟩
    rcases hk5 with rfl | rfl | rfl | rfl | rfl
    · have hr' : r = (some p, σ1) := by rw [hr]; rfl
      subst hr'
      go_wp2
      refine wp_region_q (fun W => Par c W σ1 ∧ Keeps c w W ∧ Blk W w.heap.size 66 #[.int .i64 _, .int .u64 a, .int .u64 b, .int .u64 d1, .int .u64 d2, .string t, .slice (some ad) 1 kcp]) (by kernel_rfl) (by kernel_rfl) ⟨h1.drew, hk2.drew, hbx.drew⟩ ?_
      repeat
        (first | ((with_reducible apply QW.free rfl); · (intro W hW; obtain ⟨q1, q2, q3⟩ := hW; have t0 := q3.cell 0; go_simp; first | rfl)) | ((with_reducible apply QW.skip rfl); · (first | exact ⟨_, _, rfl, rfl, .inl rfl⟩ | exact ⟨_, _, rfl, rfl, .inr rfl⟩)) | ((with_reducible apply QW.take rfl); (· exact ⟨_, rfl, rfl⟩); (· (intro W hW; obtain ⟨q1, q2, q3⟩ := hW; have t0 := q3.cell 0; go_simp; first | rfl)))); (try simp only [Act.put, List.setIfInBounds_toArray, List.set_cons_zero, List.set_cons_succ])
      refine QW.nil ?_
      rintro w3 ⟨q1, q2, q3⟩
      go_wp2
      go_ret2
      exact ⟨⟨p, rfl, fun to ht => by injection ht with ht; rw [ht]⟩, q1, q2⟩
    · have hr' : r = (none, σ1) := by rw [hr]; rfl
      subst hr'
      go_wp2
      refine wp_region_q (fun W => Par c W σ1 ∧ Keeps c w W ∧ Blk W w.heap.size 66 #[.int .i64 _, .int .u64 a, .int .u64 b, .int .u64 d1, .int .u64 d2, .string t, .slice (some ad) 1 kcp]) (by kernel_rfl) (by kernel_rfl) ⟨h1.drew, hk2.drew, hbx.drew⟩ ?_
      repeat
        (first | ((with_reducible apply QW.free rfl); · (intro W hW; obtain ⟨q1, q2, q3⟩ := hW; have t0 := q3.cell 0; go_simp; first | rfl)) | ((with_reducible apply QW.skip rfl); · (first | exact ⟨_, _, rfl, rfl, .inl rfl⟩ | exact ⟨_, _, rfl, rfl, .inr rfl⟩)) | ((with_reducible apply QW.take rfl); (· exact ⟨_, rfl, rfl⟩); (· (intro W hW; obtain ⟨q1, q2, q3⟩ := hW; have t0 := q3.cell 0; go_simp; first | rfl)))); (try simp only [Act.put, List.setIfInBounds_toArray, List.set_cons_zero, List.set_cons_succ])
      refine QW.nil ?_
      rintro w3 ⟨q1, q2, q3⟩
      go_wp2
      go_ret2
      exact ⟨⟨p, rfl, fun to ht => by cases ht⟩, q1, q2⟩
    · have hr' : r = (some p, σ1) := by rw [hr]; rfl
      subst hr'
      go_wp2
      refine wp_region_q (fun W => Par c W σ1 ∧ Keeps c w W ∧ Blk W w.heap.size 66 #[.int .i64 _, .int .u64 a, .int .u64 b, .int .u64 d1, .int .u64 d2, .string t, .slice (some ad) 1 kcp]) (by kernel_rfl) (by kernel_rfl) ⟨h1.drew, hk2.drew, hbx.drew⟩ ?_
      repeat
        (first | ((with_reducible apply QW.free rfl); · (intro W hW; obtain ⟨q1, q2, q3⟩ := hW; have t0 := q3.cell 0; go_simp; first | rfl)) | ((with_reducible apply QW.skip rfl); · (first | exact ⟨_, _, rfl, rfl, .inl rfl⟩ | exact ⟨_, _, rfl, rfl, .inr rfl⟩)) | ((with_reducible apply QW.take rfl); (· exact ⟨_, rfl, rfl⟩); (· (intro W hW; obtain ⟨q1, q2, q3⟩ := hW; have t0 := q3.cell 0; go_simp; first | rfl)))); (try simp only [Act.put, List.setIfInBounds_toArray, List.set_cons_zero, List.set_cons_succ])
      refine QW.nil ?_
      rintro w3 ⟨q1, q2, q3⟩
      go_wp2
      go_ret2
      exact ⟨⟨p, rfl, fun to ht => by injection ht with ht; rw [ht]⟩, q1, q2⟩
    · have hr' : r = (none, σ1) := by rw [hr]; rfl
      subst hr'
      go_wp2
      go_ret2
      exact ⟨⟨p, rfl, fun to ht => by cases ht⟩, h1, hk2⟩
    · have hr' : r = (some p, σ1) := by rw [hr]; rfl
      subst hr'
      go_wp2
      go_ret2
      exact ⟨⟨p, rfl, fun to ht => by injection ht with ht; rw [ht]⟩, h1, hk2⟩
  | some to =>
    obtain rfl := hz to rfl
    have hto := HBD.out.1 to rfl
    have hb1' := HBD.out.2
    rcases (by omega : k = 10 ∨ k = 11 ∨ k = 9 ∨ (k = 7 ∨ k = 8)) with rfl | rfl | rfl | hk78
    · have hr' : r = (some p, σ1) := by have := HPK.out; simpa using this.symm
      subst hr'
      go_wp2
      go_ret2
      exact ⟨⟨p, rfl, fun to ht => by injection ht with ht; rw [ht]⟩, h1, hk2⟩
    · have hr' : r = (none, σ1) := by have := HPK.out; simpa using this.symm
      subst hr'
      go_wp2
      go_ret2
      exact ⟨⟨p, rfl, fun to ht => by cases ht⟩, h1, hk2⟩
    · have hr' : r = (some to, σ1) := by have := HPK.out; simpa using this.symm
      subst hr'
      go_wp2
      go_loopw [10, 12, 13] (fun v _ _ wr => v = .int .i64 to ∧ Par c wr σ1 ∧ Keeps c w wr ∧ Blk wr w.heap.size 66 #[.int .i64 9, .int .u64 a, .int .u64 b, .int .u64 d1, .int .u64 d2, .string t, .slice (some ad) 1 kcp]) (fun _ _ _ _ => 0)
      case atStart => exact ⟨rfl, h1, hk2, hbx⟩
      case round =>
        clear h1 hk2 hbx x0
        obtain ⟨rfl, h1, hk2, hbx⟩ := hrel
        have x0 : wr.cell? ⟨w.heap.size, 0, none⟩ = some (.int .i64 9) := hbx.cell 0
        go_wp2
        go_ret2
        exact ⟨⟨to, rfl, fun to ht => by injection ht with ht; rw [ht]⟩, h1, hk2⟩
    · have hne9 : (k != 9) = true := by rw [bne_iff_ne]; omega
      have hne10 : (k == 10) = false := by rw [beq_eq_false_iff_ne]; omega
      have hne11 : (k == 11) = false := by rw [beq_eq_false_iff_ne]; omega
      have hpk : Hid (pk g c.s.data.toList c.hk m (.rep (.mk k' a' b' c' d' t' ks') (num + 1)) to σ1 = some r) := by
        have := HPK.out
        simp only at this
        rw [if_neg (by omega), if_neg (by omega), if_neg (by omega)] at this
        exact this
      clear hk78 hk5 HPK HBD HC0
      have H0 : RepI c g (.mk k' a' b' c' d' t' ks') (num + 1) m r w w.heap.size #[.int .i64 k, .int .u64 a, .int .u64 b, .int .u64 d1, .int .u64 d2, .string t, .slice (some ad) 1 kcp] m to σ1 w2 := ⟨Nat.le_refl _, hpk, hto, hb1', h1, hk2, hbx⟩
      go_wp2
      go_loopw [10, 12, 13] (fun v _ _ wr => ∃ f, RepR c g (.mk k' a' b' c' d' t' ks') (num + 1) m r w w.heap.size #[.int .i64 k, .int .u64 a, .int .u64 b, .int .u64 d1, .int .u64 d2, .string t, .slice (some ad) 1 kcp] v wr f) (fun v _ _ wr => leastN (RepR c g (.mk k' a' b' c' d' t' ks') (num + 1) m r w w.heap.size #[.int .i64 k, .int .u64 a, .int .u64 b, .int .u64 d1, .int .u64 d2, .string t, .slice (some ad) 1 kcp] v wr))
      case atStart => exact ⟨m, to, σ1, rfl, H0⟩
      case round =>
        clear h1 hk2 hbx x0 H0 hpk hto hb1'
        obtain ⟨hf, hleast⟩ := leastN_spec hrel
        clear hrel
        clear hleast
        generalize hL : leastN _ = f at hf
        obtain ⟨q, σ', rfl, H⟩ := hf
        have HL := Lib.hid hL
        clear hL
        have x0 : wr.cell? ⟨w.heap.size, 0, none⟩ = some (.int .i64 k) := H.box.cell 0
        have x6 : wr.cell? ⟨w.heap.size, 6, none⟩ = some (.slice (some ad) 1 kcp) := H.box.cell 6
        obtain ⟨s0, s1, s2, s3, s4, s5, s6⟩ := HSV.out wr (H.keeps.below (by omega) (by omega) (by omega) (by omega))
        have hpk := H.pk.out
        cases f with
        | zero => cases hpk
        | succ f =>
        simp only [pk] at hpk
        cases he : pk g c.s.data.toList c.hk f (.try_ (.mk k' a' b' c' d' t' ks') (num + 1)) q σ' with
        | none => rw [he] at hpk; cases hpk
        | some r1 =>
        obtain ⟨o, σ2⟩ := r1
        rw [he] at hpk
        have hle := H.le
        have hbd := pk_bound _ _ _ _ _ _ _ _ _ he H.pos H.bound
        have hc0 := HC.out f q σ' (o, σ2) wr (by omega) he H.pos H.bound H.par H.keeps
        have HC0 := Lib.hid hc0
        have HPK := Lib.hid hpk
        have HBD := Lib.hid hbd
        have hkw := H.keeps
        have hxw := H.box
        clear hc0 hpk hbd he H
        go_wp2_with fail
        refine HC0.out.mono ?_
        rintro e' w3 ⟨⟨z, rfl, hz⟩, h1, h2⟩
        have hbx : Blk w3 w.heap.size 66 #[.int .i64 k, .int .u64 a, .int .u64 b, .int .u64 d1, .int .u64 d2, .string t, .slice (some ad) 1 kcp] := h2.box hxw (by decide) (by omega) (by omega)
        have hk2 : Keeps c w w3 := hkw.trans h2
        clear s0 s1 s2 s3 s4 s5 s6
        cases o with
        | none =>
          have hr' : r = (some q, σ2) := by have := HPK.out; simpa using this.symm
          subst hr'
          go_wp2
          go_ret2
          exact ⟨⟨q, rfl, fun to ht => by injection ht with ht; rw [ht]⟩, h1, hk2⟩
        | some to' =>
          obtain rfl := hz to' rfl
          have hnext : RepR c g (.mk k' a' b' c' d' t' ks') (num + 1) m r w w.heap.size #[.int .i64 k, .int .u64 a, .int .u64 b, .int .u64 d1, .int .u64 d2, .string t, .slice (some ad) 1 kcp] (.int .i64 to') w3 f := ⟨to', σ2, rfl, by omega, HPK, HBD.out.1 to' rfl, HBD.out.2, h1, hk2, hbx⟩
          go_wp2
          go_roundw
          case rel => exact ⟨f, hnext⟩
          case measure => rw [HL.out]; exact Nat.lt_of_le_of_lt ((leastN_spec ⟨f, hnext⟩).2 f hnext) (Nat.lt_succ_self f)
end Go.Proofs.YtndhbdbfjkmloaaGreatDoor
