/- (*Parser).node whole; what a parser does, by induction on the fuel. -/
import Derived.Test.YtkmcnekjimobhaaPkR
namespace Go.Proofs.Ytkmcnekjimobhaa
open Go.RowKit Go.Maps

set_option maxRecDepth 100000 in
set_option maxHeartbeats 8000000 in
theorem node_ref {c : PC} (hok : c.Ok) {σ : PS} (a b d1 d2 : Int) (t : ByteArray) (A : Option Addr) (n cp num p : Nat) (hp : p ≤ 1000) (r : Option Nat × PS) (hrl : ∀ q, r.1 = some q → q ≤ 1000) (w : World) (h : Par c w σ)
    (hrule : ∀ W, Par c W σ → Calls Try.prog 45 #[.pointer (some ⟨c.P, 0, none⟩), .int .i64 (fnd c.g t.data.toList), .int .i64 p] W (RuleQ c p W r)) :
    Calls Try.prog 111 #[.pointer (some ⟨c.P, 0, none⟩), .agg #[.int .i64 4, .int .u64 a, .int .u64 b, .int .u64 d1, .int .u64 d2, .string t, .slice A n cp], .int .i64 num, .int .i64 p] w (Went c w r) := by
  have hN := NodeC.start h hok #[.int .i64 4, .int .u64 a, .int .u64 b, .int .u64 d1, .int .u64 d2, .string t, .slice A n cp]
  have hsz := h.size
  have hbP := hok.P
  have hPl : c.P < w.heap.size := by omega
  have hbM := hok.M
  have s0 := h.c0
  rw [hok.len] at s0
  have hfd := fun W (hW : Below w.heap.size w W) => find_any ((h.below hok hW).gram.more (by have := hok.Bb; have := hW.size; omega)) t
  have hru := fun W (hW : Below w.heap.size w W) => hrule W (h.below hok hW)
  have HFD := Lib.hid hfd
  have HRU := Lib.hid hru
  clear hfd hru hrule
  go_enter Try.func111, Try.ntmps111
  go_upto_region 18 with fail
  go_cut [11] (fun s11 wx => ∃ (bo : Nat) (o : Option Nat) (N : Int), s11 = .pointer (some ⟨bo, 0, none⟩) ∧ r.1 = o.map (p + ·) ∧ outV o = .agg #[.bool o.isSome, .int .i64 N] ∧ Blk wx bo 41 #[.bool o.isSome, .int .i64 N] ∧ Par c wx r.2 ∧ Keeps c w wx)
  case first =>
    go_region_with (first | (go_at_call 64; refine (HFD.out _ (by repeat (first | exact Below.refl _ _ | assumption | refine Below.drew ?_ | refine below_drewN ?_ _ | refine Below.alloc ?_ (by first | omega | (simp; omega) | simp) _ | refine Below.setCell ?_ (by first | omega | (simp; omega) | simp) _))).mono ?_; rintro e w1 ⟨rfl, hb1⟩; have hw1 : Below w.heap.size w w1 := Below.trans (by repeat (first | exact Below.refl _ _ | assumption | refine Below.drew ?_ | refine below_drewN ?_ _ | refine Below.alloc ?_ (by first | omega | (simp; omega) | simp) _ | refine Below.setCell ?_ (by first | omega | (simp; omega) | simp) _)) (hb1.mono (by first | omega | (simp; omega) | simp)); have hz1 := hw1.size; (first | (have hbA : Blk w1 (w.heap.size + 1) 41 #[.bool false, .int .i64 0] := Blk.below (by first | exact blk_at rfl | exact blk_at (by simp)) hb1 (by simp)) | skip)) | (go_at_call 45; refine (HRU.out _ (by repeat (first | exact Below.refl _ _ | assumption | refine Below.drew ?_ | refine below_drewN ?_ _ | refine Below.alloc ?_ (by first | omega | (simp; omega) | simp) _ | refine Below.setCell ?_ (by first | omega | (simp; omega) | simp) _))).mono ?_; rintro e w2 ⟨⟨o, rfl, ho⟩, q1, q2⟩; obtain ⟨N, hN⟩ : ∃ N : Int, outV o = .agg #[.bool o.isSome, .int .i64 N] := (by cases o <;> exact ⟨_, rfl⟩); rw [hN]; (first | (have hbx := q2.box hbA (by decide) (by omega) (by omega); have z0 : w2.cell? ⟨w.heap.size + 1, 0, none⟩ = some (.bool false) := hbx.cell 0; have z1 : w2.cell? ⟨w.heap.size + 1, 1, none⟩ = some (.int .i64 0) := hbx.cell 1; have f0 := hbx.frozen 0; have f1 := hbx.frozen 1) | (have hbx : Blk w2 w1.heap.size 41 #[.bool false, .int .i64 0] := q2.box (blk_at rfl) (by decide) (by omega) (by omega); have z0 : w2.cell? ⟨w1.heap.size, 0, none⟩ = some (.bool false) := hbx.cell 0; have z1 : w2.cell? ⟨w1.heap.size, 1, none⟩ = some (.int .i64 0) := hbx.cell 1; have f0 := hbx.frozen 0; have f1 := hbx.frozen 1) | skip)))
    all_goals (go_wp2_with fail; go_meet)
    all_goals
      have hK : Keeps c w w2 := by first | exact (Keeps.of_below hw1).trans q2 | exact ((Keeps.of_below hw1).alloc _).trans q2
      first
        | exact ⟨_, o, N, rfl, ho, hN, (hbx.set_ 0 _).set_ 1 _, (q1.far hok hbx (by decide) (by omega) (by omega) (by omega) 0 _).far hok (hbx.set_ 0 _) (by decide) (by omega) (by omega) (by omega) 1 _, (hK.far (by omega) 0 _).far (by omega) 1 _⟩
        | exact ⟨_, o, N, rfl, ho, hN, blk_at rfl, q1.alloc hok _, hK.alloc _⟩
  case rest =>
  obtain ⟨bo, o, N, rfl, ho, hN, hbx, q1, q2⟩ := hcut
  have hNn : (∃ k : Nat, o = some k ∧ N = k) ∨ (o = none ∧ N = 0) := by
    cases o with
    | none => exact .inr ⟨rfl, by simp [outV] at hN; exact hN.symm⟩
    | some k => exact .inl ⟨k, rfl, by simp [outV] at hN; exact hN.symm⟩
  have hwr : IntKind.i64.wrap ((p : Int) + N) = (p : Int) + N := by
    rcases hNn with ⟨k, rfl, rfl⟩ | ⟨rfl, rfl⟩
    · have := hrl (p + k) (by rw [ho]; rfl)
      exact wrap_i64 _ (by omega) (by omega)
    · exact wrap_i64 _ (by omega) (by omega)
  have HQ : Hid (Ret r.1 (.returned (.tuple #[.int .i64 ((p : Int) + N), .bool o.isSome]))) := by
    refine ⟨(p : Int) + N, ?_, fun q hq => ?_⟩
    · rw [ho, Option.isSome_map]
    · rcases hNn with ⟨k, rfl, rfl⟩ | ⟨rfl, rfl⟩
      · rw [ho, Option.map_some, Option.some.injEq] at hq
        omega
      · rw [ho] at hq; cases hq
  clear hN s0 hrl ho hNn HFD HRU h
  go_wp2_with fail
  refine wp_region_q (fun W => Par c W r.2 ∧ Keeps c w W ∧ Blk W bo 41 #[.bool o.isSome, .int .i64 N]) (by kernel_rfl) (by kernel_rfl) ⟨q1.drew, q2.drew, hbx.drew⟩ ?_
  repeat
    (first | ((with_reducible apply QW.free rfl); · (intro W hW; have t0 := hW.2.2.cell 0; have t1 := hW.2.2.cell 1; go_simp; first | rfl)) | ((with_reducible apply QW.skip rfl); · (first | exact ⟨_, _, rfl, rfl, .inl rfl⟩ | exact ⟨_, _, rfl, rfl, .inr rfl⟩)) | ((with_reducible apply QW.take rfl); (· exact ⟨_, rfl, rfl⟩); (· (intro W hW; have t0 := hW.2.2.cell 0; have t1 := hW.2.2.cell 1; go_simp; first | rfl)))); (try simp only [Act.put, List.setIfInBounds_toArray, List.set_cons_zero, List.set_cons_succ])
  refine QW.nil ?_
  rintro w3 ⟨p1, p2, p3⟩
  go_wp2
  go_ret2
  exact ⟨HQ.out, p1, p2⟩
end Go.Proofs.Ytkmcnekjimobhaa
