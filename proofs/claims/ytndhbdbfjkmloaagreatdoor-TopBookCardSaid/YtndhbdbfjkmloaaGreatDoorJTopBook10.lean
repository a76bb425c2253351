/- (*Parser).node whole; what a parser does, by induction on the fuel. (*Parser).node whole; what a parser does, by induction on the fuel. What a parser does, by induction on the fuel. pack.New. pack.At, pack.Run: what they answer. pack.Run: what it answers. Expressions and grammars that a law builds: lit, ref, of, one. The law PackRest: plain; outcomes compared; what stands ahead makes no difference. list.Accepts: what it answers; the errors that a look may tell. -/
import Derived.Test.YtndhbdbfjkmloaaGreatDoorJTopBook9
import Derived.Test.YtndhbdbfjkmloaaGreatDoorJTopBook1
import Derived.BigQuiet
import Derived.Deep.QuietTactic
namespace Go.Proofs.YtndhbdbfjkmloaaGreatDoor
open Go.RowKit Go.Maps

set_option maxRecDepth 100000 in
set_option maxHeartbeats 8000000 in
theorem node_ref {c : PC} (hok : c.Ok) {σ : PS} (a b d1 d2 : Int) (t : ByteArray) (A : Option Addr) (n cp num p : Nat) (hp : p ≤ 1000) (r : Option Nat × PS) (hrl : ∀ q, r.1 = some q → q ≤ 1000) (w : World) (h : Par c w σ)
    (hrule : ∀ W, Par c W σ → Calls Tryz.prog 26 #[.pointer (some ⟨c.P, 0, none⟩), .int .i64 (fnd c.g t.data.toList), .int .i64 p] W (RuleQ c p W r)) :
    Calls Tryz.prog 59 #[.pointer (some ⟨c.P, 0, none⟩), .agg #[.int .i64 4, .int .u64 a, .int .u64 b, .int .u64 d1, .int .u64 d2, .string t, .slice A n cp], .int .i64 num, .int .i64 p] w (Went c w r) := by
  have hN := NodeC.start h hok #[.int .i64 4, .int .u64 a, .int .u64 b, .int .u64 d1, .int .u64 d2, .string t, .slice A n cp]
  have hsz := h.size
  have hbP := hok.P
  have hPl : c.P < w.heap.size := by omega
  have hbM := hok.M
  have s0 := h.c0
  rw [hok.len] at s0
  have hfd := fun W (hW : Below w.heap.size w W) => find_any ((h.below hok hW).gram.more (by have := hok.Bb; have := hW.size; omega)) t
  have hru := fun W (hW : Below w.heap.size w W) => hrule W (h.below hok hW)
  have HFD := Lib.hid hfd
  have HRU := Lib.hid hru
  clear hfd hru hrule
  go_enter Tryz.func59, Tryz.ntmps59
  go_upto_region 18 with fail
  go_cut [11] (fun s11 wx => ∃ (bo : Nat) (o : Option Nat) (N : Int), s11 = .pointer (some ⟨bo, 0, none⟩) ∧ r.1 = o.map (p + ·) ∧ outV o = .agg #[.bool o.isSome, .int .i64 N] ∧ Blk wx bo 49 #[.bool o.isSome, .int .i64 N] ∧ Par c wx r.2 ∧ Keeps c w wx)
  case first =>
    go_region_with (first | (go_at_call 53; refine (HFD.out _ (by repeat (first | exact Below.refl _ _ | assumption | refine Below.drew ?_ | refine below_drewN ?_ _ | refine Below.alloc ?_ (by first | omega | (simp; omega) | simp) _ | refine Below.setCell ?_ (by first | omega | (simp; omega) | simp) _))).mono ?_; rintro e w1 ⟨rfl, hb1⟩; have hw1 : Below w.heap.size w w1 := Below.trans (by repeat (first | exact Below.refl _ _ | assumption | refine Below.drew ?_ | refine below_drewN ?_ _ | refine Below.alloc ?_ (by first | omega | (simp; omega) | simp) _ | refine Below.setCell ?_ (by first | omega | (simp; omega) | simp) _)) (hb1.mono (by first | omega | (simp; omega) | simp)); have hz1 := hw1.size; (first | (have hbA : Blk w1 (w.heap.size + 1) 49 #[.bool false, .int .i64 0] := Blk.below (by first | exact blk_at rfl | exact blk_at (by simp)) hb1 (by simp)) | skip)) | (go_at_call 26; refine (HRU.out _ (by repeat (first | exact Below.refl _ _ | assumption | refine Below.drew ?_ | refine below_drewN ?_ _ | refine Below.alloc ?_ (by first | omega | (simp; omega) | simp) _ | refine Below.setCell ?_ (by first | omega | (simp; omega) | simp) _))).mono ?_; rintro e w2 ⟨⟨o, rfl, ho⟩, q1, q2⟩; obtain ⟨N, hN⟩ : ∃ N : Int, outV o = .agg #[.bool o.isSome, .int .i64 N] := (by cases o <;> exact ⟨_, rfl⟩); rw [hN]; (first | (have hbx := q2.box hbA (by decide) (by omega) (by omega); have z0 : w2.cell? ⟨w.heap.size + 1, 0, none⟩ = some (.bool false) := hbx.cell 0; have z1 : w2.cell? ⟨w.heap.size + 1, 1, none⟩ = some (.int .i64 0) := hbx.cell 1; have f0 := hbx.frozen 0; have f1 := hbx.frozen 1) | (have hbx : Blk w2 w1.heap.size 49 #[.bool false, .int .i64 0] := q2.box (blk_at rfl) (by decide) (by omega) (by omega); have z0 : w2.cell? ⟨w1.heap.size, 0, none⟩ = some (.bool false) := hbx.cell 0; have z1 : w2.cell? ⟨w1.heap.size, 1, none⟩ = some (.int .i64 0) := hbx.cell 1; have f0 := hbx.frozen 0; have f1 := hbx.frozen 1) | skip)))
    all_goals (go_wp2_with fail; go_meet)
    all_goals
      have hK : Keeps c w w2 := by first | exact (Keeps.of_below hw1).trans q2 | exact ((Keeps.of_below hw1).alloc _).trans q2
      first
        | exact ⟨_, o, N, rfl, ho, hN, (hbx.set_ 0 _).set_ 1 _, (q1.far hok hbx (by decide) (by omega) (by omega) (by omega) 0 _).far hok (hbx.set_ 0 _) (by decide) (by omega) (by omega) (by omega) 1 _, (hK.far (by omega) 0 _).far (by omega) 1 _⟩
        | exact ⟨_, o, N, rfl, ho, hN, blk_at rfl, q1.alloc hok _, hK.alloc _⟩
  case rest =>
  obtain ⟨bo, o, N, rfl, ho, hN, hbx, q1, q2⟩ := hcut
  have hNn : (∃ k : Nat, o = some k ∧ N = k) ∨ (o = none ∧ N = 0) := by
    cases o with
    | none => exact .inr ⟨rfl, by simp [outV] at hN; exact hN.symm⟩
    | some k => exact .inl ⟨k, rfl, by simp [outV] at hN; exact hN.symm⟩
  have hwr : IntKind.i64.wrap ((p : Int) + N) = (p : Int) + N := by
    rcases hNn with ⟨k, rfl, rfl⟩ | ⟨rfl, rfl⟩
    · have := hrl (p + k) (by rw [ho]; rfl)
      exact wrap_i64 _ (by omega) (by omega)
    · exact wrap_i64 _ (by omega) (by omega)
  have HQ : Hid (Ret r.1 (.returned (.tuple #[.int .i64 ((p : Int) + N), .bool o.isSome]))) := by
    refine ⟨(p : Int) + N, ?_, fun q hq => ?_⟩
    · rw [ho, Option.isSome_map]
    · rcases hNn with ⟨k, rfl, rfl⟩ | ⟨rfl, rfl⟩
      · rw [ho, Option.map_some, Option.some.injEq] at hq
        omega
      · rw [ho] at hq; cases hq
  clear hN s0 hrl ho hNn HFD HRU h
  go_wp2_with fail
  refine wp_region_q (fun W => Par c W r.2 ∧ Keeps c w W ∧ Blk W bo 49 #[.bool o.isSome, .int .i64 N]) (by kernel_rfl) (by kernel_rfl) ⟨q1.drew, q2.drew, hbx.drew⟩ ?_
  repeat
    (first | ((with_reducible apply QW.free rfl); · (intro W hW; have t0 := hW.2.2.cell 0; have t1 := hW.2.2.cell 1; go_simp; first | rfl)) | ((with_reducible apply QW.skip rfl); · (first | exact ⟨_, _, rfl, rfl, .inl rfl⟩ | exact ⟨_, _, rfl, rfl, .inr rfl⟩)) | ((with_reducible apply QW.take rfl); (· exact ⟨_, rfl, rfl⟩); (· (intro W hW; have t0 := hW.2.2.cell 0; have t1 := hW.2.2.cell 1; go_simp; first | rfl)))); (try simp only [Act.put, List.setIfInBounds_toArray, List.set_cons_zero, List.set_cons_succ])
  refine QW.nil ?_
  rintro w3 ⟨p1, p2, p3⟩
  go_wp2
  go_ret2
  exact ⟨HQ.out, p1, p2⟩
end Go.Proofs.YtndhbdbfjkmloaaGreatDoor
namespace Go.Proofs.YtndhbdbfjkmloaaGreatDoor
open Go.RowKit Go.Maps

set_option maxRecDepth 100000 in
set_option maxHeartbeats 8000000 in
theorem node_alt {c : PC} (hok : c.Ok) {g : List Rl} {m : Nat} (hT : DoesTry c g m) (a b d1 d2 : Int) (t : ByteArray) (ks : List Ex) (num p : Nat) (σ : PS) (r : Option Nat × PS) (cs : List Value) (w : World)
    (hpk : pk g c.s.data.toList c.hk m (.alt ks (num + 1)) p σ = some r) (hE : ExIs w c.B (.mk 6 a b d1 d2 t ks) cs) (hR : ∀ e ∈ ks, RtW g e) (hnum : num + 1 + nodesAll ks ≤ c.lim) (hp : p ≤ c.s.data.toList.length) (hB : Bound c.s.data.toList.length σ) (h : Par c w σ) :
    Calls Tryz.prog 59 #[.pointer (some ⟨c.P, 0, none⟩), .agg cs.toArray, .int .i64 num, .int .i64 p] w (Went c w r) := by
  have hsz := h.size
  have hb1 := hok.Bb
  have hb2 := hok.BP
  have hb3 := hok.BM
  obtain ⟨ht, KA, kcp, rfl, hkc, hkm, _⟩ := hE.shape
  unfold exCells
  have hal : Below w.heap.size w (w.alloc (.cells #[.int .i64 6, .int .u64 a, .int .u64 b, .int .u64 d1, .int .u64 d2, .string t, .slice KA ks.length kcp] 66)) := (Below.refl _ _).alloc (Nat.le_refl _) _
  have hpar := h.below hok hal
  have hkp : Keeps c w (w.alloc (.cells #[.int .i64 6, .int .u64 a, .int .u64 b, .int .u64 d1, .int .u64 d2, .string t, .slice KA ks.length kcp] 66)) := Keeps.of_below hal
  have hm8 : ks.length ≤ 9223372036854775807 := by unfold maxLen at hkm; omega
  have hnum' : num + 1 + nodesAll ks ≤ c.lim := hnum
  have hlim := hok.lim
  have HE := Lib.hid hE
  have HT := Lib.hid hT
  have HPK := Lib.hid hpk
  have HRR := Lib.hid hR
  have HB := Lib.hid hB
  have HPP := Lib.hid hp
  clear hE hT hpk hR hB hnum hp
  go_enter Tryz.func59, Tryz.ntmps59
  go_wp2
  go_loopw [12, 141] (fun n i wr => ∃ j n' : Nat, ∃ σ' : PS, j ≤ ks.length ∧ i = .int .i64 j ∧ n = .int .i64 n' ∧ n' + nodesAll (ks.drop j) ≤ c.lim ∧ Hid (pk g c.s.data.toList c.hk m (.alt (ks.drop j) n') p σ' = some r) ∧ Hid (Bound c.s.data.toList.length σ') ∧ Par c wr σ' ∧ Keeps c w wr) (fun _ i _ => ks.length - (intOf i).toNat)
  case atStart => exact ⟨0, num + 1, σ, by omega, rfl, by go_num, hnum', HPK, HB, hpar, hkp⟩
  case round =>
    clear hpar hkp h
    obtain ⟨j, n, σ', hj, rfl, rfl, hn, HP, HB', hpar', hk'⟩ := hrel
    have hzr := hk'.size
    by_cases hjk : j < ks.length
    · have hbw : Below c.B w wr := hk'.below (by omega) hb2 hb3 hb1
      obtain ⟨ad, k', a', b', c', d', t', ks', A', cp', rfl, hab, hej, hE', ⟨e0, e1, e2, e3, e4, e5, e6⟩⟩ := (HE.out.on hbw).kid hjk
      have hpk' := HP.out
      rw [drop_of hej] at hpk' hn
      rw [nodesAll] at hn
      cases m with
      | zero => cases hpk'
      | succ m' =>
      simp only [pk] at hpk'
      cases he : pk g c.s.data.toList c.hk m' (.try_ (.mk k' a' b' c' d' t' ks') n) p σ' with
      | none => rw [he] at hpk'; cases hpk'
      | some r1 =>
      obtain ⟨o, σ1⟩ := r1
      rw [he] at hpk'
      have hbd := pk_bound _ _ _ _ _ _ _ _ _ he HPP.out HB'.out
      have hcall := fun W (hW : Below wr.heap.size wr W) => HT.out.le (Nat.le_succ m') _ n p σ' (o, σ1) _ W he (hE'.on (hW.mono (by omega))) (HRR.out _ (List.mem_of_getElem? hej)) (by omega) HPP.out HB'.out (hpar'.below hok hW)
      have hcn := fun W (hW : Below c.B wr W) => countK_any _ _ W ((hE'.on hW).keep (by have := hW.size; omega) fun _ _ => rfl) (by omega)
      have HCN := Lib.hid hcn
      have HC := Lib.hid hcall
      have HPQ := Lib.hid hpk'
      have HBD := Lib.hid hbd
      clear hcn hcall hpk' hbd he hej hE' hpar'
      go_wp2_with fail
      refine (HC.out _ (by repeat (first | exact Below.refl _ _ | assumption | refine Below.drew ?_ | refine below_drewN ?_ _ | refine Below.alloc ?_ (by first | omega | (simp; omega) | simp) _ | refine Below.setCell ?_ (by first | omega | (simp; omega) | simp) _))).mono ?_
      rintro e' w2 ⟨⟨z, rfl, hz⟩, h1, h2⟩
      have hbx : Blk w2 wr.heap.size 66 #[.int .i64 k', .int .u64 a', .int .u64 b', .int .u64 c', .int .u64 d', .string t', .slice A' ks'.length cp'] := h2.box (blk_at rfl) (by decide) (by have := hok.P; omega) (by have := hok.M; omega)
      have hk2 : Keeps c w w2 := (hk'.alloc _).trans h2
      cases o with
      | some q =>
        have hr : r = (some q, σ1) := by have := HPQ.out; simp only [Option.some.injEq] at this; exact this.symm
        obtain rfl := hz q rfl
        subst hr
        go_wp2
        go_ret2
        exact ⟨⟨q, rfl, fun y ht => by injection ht with ht; rw [ht]⟩, h1, hk2⟩
      | none =>
        have x0 : w2.cell? ⟨wr.heap.size, 0, none⟩ = some (.int .i64 k') := hbx.cell 0; have x1 : w2.cell? ⟨wr.heap.size, 1, none⟩ = some (.int .u64 a') := hbx.cell 1; have x2 : w2.cell? ⟨wr.heap.size, 2, none⟩ = some (.int .u64 b') := hbx.cell 2; have x3 : w2.cell? ⟨wr.heap.size, 3, none⟩ = some (.int .u64 c') := hbx.cell 3; have x4 : w2.cell? ⟨wr.heap.size, 4, none⟩ = some (.int .u64 d') := hbx.cell 4; have x5 : w2.cell? ⟨wr.heap.size, 5, none⟩ = some (.string t') := hbx.cell 5; have x6 : w2.cell? ⟨wr.heap.size, 6, none⟩ = some (.slice A' ks'.length cp') := hbx.cell 6
        have hbw2 : Below c.B wr w2 := ((Below.refl _ _).alloc (by omega) _).trans (h2.below (by simp; omega) hb2 hb3 hb1)
        go_wp2_with fail
        refine (HCN.out w2 hbw2).mono ?_
        rintro e' w3 ⟨rfl, hb3'⟩
        go_wp2
        go_roundw
        case rel => exact ⟨j + 1, n + nodes (.mk k' a' b' c' d' t' ks'), σ1, by omega, by go_num, by go_num, by omega, Lib.hid (pk_le HPQ.out (Nat.le_succ _)), Lib.hid HBD.out.2, h1.below hok hb3', hk2.trans (Keeps.of_below hb3')⟩
        case measure => simp [intOf]; omega
    · obtain rfl : j = ks.length := by omega
      have hpk' := HP.out
      rw [List.drop_length] at hpk'
      have hr : r = (none, σ') := by
        cases m with
        | zero => cases hpk'
        | succ m' => simp only [pk, Option.some.injEq] at hpk'; exact hpk'.symm
      subst hr
      go_wp2
      go_ret2
      exact ⟨⟨0, rfl, fun y ht => by cases ht⟩, hpar', hk'⟩

set_option maxRecDepth 100000 in
set_option maxHeartbeats 4000000 in
theorem node_seq {c : PC} (hok : c.Ok) {g : List Rl} {m : Nat} (hT : DoesTry c g m) (a b d1 d2 : Int) (t : ByteArray) (ks : List Ex) (num p : Nat) (σ : PS) (r : Option Nat × PS) (cs : List Value) (w : World)
    (hpk : pk g c.s.data.toList c.hk m (.seq ks (num + 1)) p σ = some r) (hE : ExIs w c.B (.mk 5 a b d1 d2 t ks) cs) (hR : ∀ e ∈ ks, RtW g e) (hnum : num + 1 + nodesAll ks ≤ c.lim) (hp : p ≤ c.s.data.toList.length) (hB : Bound c.s.data.toList.length σ) (h : Par c w σ) :
    Calls Tryz.prog 59 #[.pointer (some ⟨c.P, 0, none⟩), .agg cs.toArray, .int .i64 num, .int .i64 p] w (Went c w r) := by
  have hsz := h.size
  have hb1 := hok.Bb
  obtain ⟨ht, KA, kcp, rfl, hkc, hkm, _⟩ := hE.shape
  have hal : Below w.heap.size w (w.alloc (.cells #[.int .i64 5, .int .u64 a, .int .u64 b, .int .u64 d1, .int .u64 d2, .string t, .slice KA ks.length kcp] 66)) := (Below.refl _ _).alloc (Nat.le_refl _) _
  have hc := seq_any hok hT 5 a b d1 d2 t ks num p σ r _ _ hpk (hE.on (hal.mono (by omega))) hR hnum hp hB (h.below hok hal)
  have hk := Keeps.of_below (c := c) hal
  unfold exCells at hc ⊢
  have HC := Lib.hid hc
  have HK := Lib.hid hk
  clear hc hE hpk hR hnum hB hT hk
  go_enter Tryz.func59, Tryz.ntmps59
  go_wp2_with fail
  refine HC.out.mono ?_
  rintro e' w2 ⟨⟨z, rfl, hz⟩, h1, h2⟩
  go_wp2
  go_ret2
  exact ⟨⟨z, rfl, hz⟩, h1, HK.out.trans h2⟩

set_option maxRecDepth 100000 in
set_option maxHeartbeats 4000000 in
theorem node_one {c : PC} (hok : c.Ok) {g : List Rl} {m : Nat} (hT : DoesTry c g m) (k a b d1 d2 : Int) (t : ByteArray) (e : Ex) (num p : Nat) (σ : PS) (r : Option Nat × PS) (cs : List Value) (w : World) (h7 : 7 ≤ k) (h11 : k ≤ 11)
    (hpk : pk g c.s.data.toList c.hk m (.one k e num) p σ = some r) (hE : ExIs w c.B (.mk k a b d1 d2 t [e]) cs) (hR : RtW g e) (hnum : num + 1 + nodes e ≤ c.lim) (hp : p ≤ c.s.data.toList.length) (hB : Bound c.s.data.toList.length σ) (h : Par c w σ) :
    Calls Tryz.prog 59 #[.pointer (some ⟨c.P, 0, none⟩), .agg cs.toArray, .int .i64 num, .int .i64 p] w (Went c w r) := by
  have hsz := h.size
  have hb1 := hok.Bb
  obtain ⟨ht, KA, kcp, rfl, hkc, hkm, _⟩ := hE.shape
  have hal : Below w.heap.size w (w.alloc (.cells #[.int .i64 k, .int .u64 a, .int .u64 b, .int .u64 d1, .int .u64 d2, .string t, .slice KA 1 kcp] 66)) := (Below.refl _ _).alloc (Nat.le_refl _) _
  have hc := single_any hok hT k a b d1 d2 t e num p σ r _ _ h7 h11 hpk (hE.on (hal.mono (by omega))) hR hnum hp hB (h.below hok hal)
  have hk := Keeps.of_below (c := c) hal
  unfold exCells at hc ⊢
  have hkl : ([e] : List Ex).length = 1 := rfl
  rw [hkl] at hc ⊢
  have HC := Lib.hid hc
  have HK := Lib.hid hk
  have z1 : (k == 1) = false := by rw [beq_eq_false_iff_ne]; omega
  have z2 : (k == 2) = false := by rw [beq_eq_false_iff_ne]; omega
  have z3 : (k == 3) = false := by rw [beq_eq_false_iff_ne]; omega
  have z4 : (k == 4) = false := by rw [beq_eq_false_iff_ne]; omega
  have z5 : (k == 5) = false := by rw [beq_eq_false_iff_ne]; omega
  have z6 : (k == 6) = false := by rw [beq_eq_false_iff_ne]; omega
  clear hc hE hpk hR hnum hB hT hk h7 h11
  go_enter Tryz.func59, Tryz.ntmps59
  go_wp2_with fail
  refine HC.out.mono ?_
  rintro e' w2 ⟨⟨z, rfl, hz⟩, h1, h2⟩
  go_wp2
  go_ret2
  exact ⟨⟨z, rfl, hz⟩, h1, HK.out.trans h2⟩
end Go.Proofs.YtndhbdbfjkmloaaGreatDoor
namespace Go.Proofs.YtndhbdbfjkmloaaGreatDoor
open Go.RowKit Go.Maps

/-- a parser's grammar and text are right and not too long -/
structure PC.Fit (c : PC) : Prop where
  ok : c.Ok
  hook : HookOk c
  rules : c.g.length ≤ 1000
  len : c.s.data.toList.length ≤ 1000
  rt : ∀ r ∈ c.g, RtW c.g r.2
  nodes : ∀ i r, c.g[i]? = some r → firstN c.g i + Go.Proofs.YtndhbdbfjkmloaaGreatDoor.nodes r.2 ≤ c.lim

theorem rule_any {c : PC} (F : c.Fit) {m : Nat} (hT : DoesTry c c.g m) : DoesRule c (m + 1) := by
  intro i p σ r w hpk hi hp hB h
  have hl := F.len
  have hg := F.rules
  simp only [pk] at hpk
  cases hs : recall σ.seen (i, p) with
  | some o =>
    rw [hs] at hpk
    simp only [Option.some.injEq] at hpk
    subst hpk
    exact (rule_hit F.ok i p (by unfold big; omega) (by unfold big; omega) o hs w h).mono fun e w' hh => ⟨⟨o, hh.1, rfl⟩, hh.2⟩
  | none =>
    rw [hs] at hpk
    obtain ⟨rr, hr⟩ : ∃ rr, c.g[i]? = some rr := ⟨_, List.getElem?_eq_getElem hi⟩
    simp only [hr] at hpk
    cases he : pk c.g c.s.data.toList c.hk m (.try_ rr.2 (firstN c.g i)) p σ with
    | none => rw [he] at hpk; cases hpk
    | some x =>
      obtain ⟨o, σ1⟩ := x
      rw [he] at hpk
      simp only at hpk
      split at hpk
      · cases hpk
      rename_i hn
      simp only [Option.some.injEq] at hpk
      subst hpk
      have hbd := pk_bound _ _ _ _ _ _ _ _ _ he hp hB
      have hge := pk_ge _ _ _ _ _ _ _ _ _ he
      have hn' : recall σ1.seen (i, p) = none := by simpa using hn
      refine (rule_new F.ok i p (o.getD 0) hi hg hp hl o hs hn' (fun q hq => ⟨by rw [hq]; rfl, hge q hq⟩) (by
        cases o with
        | none => simp
        | some q => have := hbd.1 q rfl; simp; omega) (fun r cs W hr' hE hP => by
          rw [hr] at hr'
          injection hr' with hr'
          subst hr'
          exact hT _ _ p σ (o, σ1) _ W he hE (F.rt _ (List.mem_of_getElem? hr)) (F.nodes i _ hr) hp hB hP) w h).mono fun e w' hh => ⟨⟨_, hh.1, ?_⟩, hh.2⟩
      cases o with
      | none => rfl
      | some q =>
        have := hge q rfl
        simp only [Option.map_some, Option.some.injEq]
        omega

theorem u64_nat {a : Int} (h : U64 a) : ∃ n : Nat, a = n ∧ n < 18446744073709551616 := by
  obtain ⟨h1, h2⟩ := h
  exact ⟨a.toNat, by omega, by omega⟩
theorem node_any {c : PC} (F : c.Fit) {m : Nat} (hT : DoesTry c c.g m) (hU : DoesRule c m) : DoesNode c c.g (m + 1) := by
  intro e num p σ r cs w hpk hE hR hnum hp hB h
  have hl := F.len
  have hbd := pk_bound _ _ _ _ _ _ _ _ _ hpk hp hB
  obtain ⟨hrt, hwf⟩ := hR
  cases hrt with
  | mk k a b d1 d2 t ks hfit hname hkids =>
  cases hwf with
  | mk _ _ _ _ _ _ _ hk64 wa wb wc wd wks =>
  have hRk : ∀ e ∈ ks, RtW c.g e := fun e he => ⟨hkids e he, wks e he⟩
  rw [nodes] at hnum
  rw [pk_node] at hpk
  have hlb : c.s.data.toList.length ≤ big := by unfold big; omega
  rcases fit_cases hfit with ⟨rfl, h0⟩ | ⟨rfl, h0⟩ | ⟨rfl, h0, _, h60⟩ | ⟨rfl, h0, _⟩ | ⟨rfl, h2, h8⟩ | ⟨rfl, h2, h8⟩ | ⟨h7, h11, h1⟩
  · rw [if_pos rfl] at hpk
    simp only [Option.some.injEq] at hpk
    subst hpk
    obtain ⟨_, A, cp, rfl, _⟩ := hE.shape
    exact node_empty F.ok a b d1 d2 t A _ cp num p w h
  · rw [if_neg (by decide), if_pos rfl] at hpk
    obtain ⟨_, A, cp, rfl, _⟩ := hE.shape
    obtain ⟨a, rfl, ha⟩ := u64_nat wa
    obtain ⟨b, rfl, hb⟩ := u64_nat wb
    obtain ⟨d1, rfl, hc⟩ := u64_nat wc
    obtain ⟨d2, rfl, hd⟩ := u64_nat wd
    have := node_set F.ok (σ := σ) a b d1 d2 ha hb hc hd t A ks.length cp num p hp hlb w h
    rw [show (if p < c.s.data.toList.length ∧ hasE a b d1 d2 (bt c.s.data.toList p) = true then (some (p + 1), σ) else (none, missS σ p ⟨a, b, d1, d2⟩)) = r from by
      split at hpk
      · rename_i hc; rw [if_pos hc]; injection hpk
      · rename_i hc; rw [if_neg hc]; injection hpk] at this
    exact this
  · rw [if_neg (by decide), if_neg (by decide), if_pos rfl] at hpk
    obtain ⟨hts, A, cp, rfl, _⟩ := hE.shape
    have := node_lit F.ok (σ := σ) a b d1 d2 t A ks.length cp num p hp hlb (by have : t.data.toList.length = t.size := size_list t; unfold big; omega) w h
    rw [show (if litAt c.s.data.toList p t.data.toList = true then (some (p + t.size), σ) else (none, missS σ (p + matchN c.s.data.toList p t.data.toList) (oneS (bt t.data.toList (matchN c.s.data.toList p t.data.toList))))) = r from by
      split at hpk
      · rename_i hc; rw [if_pos hc]; injection hpk
      · rename_i hc; rw [if_neg hc]; injection hpk] at this
    exact this
  · rw [if_neg (by decide), if_neg (by decide), if_neg (by decide), if_pos rfl] at hpk
    obtain ⟨_, A, cp, rfl, _⟩ := hE.shape
    have hi := hname rfl
    have hlt := (fndFrom_le c.g t.data.toList 0).2
    have hin : ((fnd c.g t.data.toList).toNat : Int) = fnd c.g t.data.toList := Int.toNat_of_nonneg hi
    exact node_ref F.ok a b d1 d2 t A ks.length cp num p (by omega) r (fun q hq => by have := hbd.1 q hq; omega) w h fun W hW => by
      have := hU (fnd c.g t.data.toList).toNat p σ r W hpk (by unfold fnd; unfold fnd at hi; omega) hp hB hW
      rw [hin] at this
      exact this
  · rw [if_neg (by decide), if_neg (by decide), if_neg (by decide), if_neg (by decide), if_pos rfl] at hpk
    exact node_seq F.ok hT a b d1 d2 t ks num p σ r cs w hpk hE hRk (by omega) hp hB h
  · rw [if_neg (by decide), if_neg (by decide), if_neg (by decide), if_neg (by decide), if_neg (by decide), if_pos rfl] at hpk
    exact node_alt F.ok hT a b d1 d2 t ks num p σ r cs w hpk hE hRk (by omega) hp hB h
  · rw [if_neg (by omega), if_neg (by omega), if_neg (by omega), if_neg (by omega), if_neg (by omega), if_neg (by omega)] at hpk
    match ks, h1 with
    | [e], _ =>
      rw [nodesAll, nodesAll] at hnum
      exact node_one F.ok hT k a b d1 d2 t e num p σ r cs w h7 h11 hpk hE (hRk e (by simp)) (by omega) hp hB h

theorem does {c : PC} (F : c.Fit) : ∀ m, DoesNode c c.g m ∧ DoesTry c c.g m ∧ DoesRule c m := by
  intro m
  induction m with
  | zero => exact ⟨fun e num p σ r cs w hpk => (by cases hpk), fun e num p σ r cs w hpk => (by cases hpk), fun i p σ r w hpk => (by cases hpk)⟩
  | succ m ih => exact ⟨node_any F ih.2.1 ih.2.2, try_any F.ok F.hook ih.1, rule_any F ih.2.1⟩
end Go.Proofs.YtndhbdbfjkmloaaGreatDoor
namespace Go.Proofs.YtndhbdbfjkmloaaGreatDoor
open Go.RowKit Go.Maps

theorem int_info_ : (Tryz.prog.info? 3).map (fun i => (i.zero, i.size, i.bytes)) = some (some (.int .i64 0), 1, 8) := by kernel_rfl
def ps0 : PS := ⟨[], [], -1, noS, []⟩
/-- the numbers of the first nodes of rules -/
def firstsN (g : List Rl) (j : Nat) : List Nat := (List.range j).map (firstN g)
theorem firstsN_succ (g : List Rl) (j : Nat) : firstsN g (j + 1) = firstsN g j ++ [firstN g j] := by
  unfold firstsN
  rw [List.range_succ, List.map_append]
  rfl
theorem firstN_succ {g : List Rl} {j : Nat} {r : Rl} (h : g[j]? = some r) : firstN g (j + 1) = firstN g j + nodes r.2 := by
  unfold firstN
  rw [take_succ_of h, List.map_append, List.sum_append]
  simp
theorem firstN_le {g : List Rl} (h : ∀ r ∈ g, nodes r.2 ≤ 60) : ∀ j, firstN g j ≤ j * 60 := by
  intro j
  induction j with
  | zero => simp [firstN]
  | succ j ih =>
    cases hr : g[j]? with
    | some r =>
      rw [firstN_succ hr]
      have := h r (List.mem_of_getElem? hr)
      omega
    | none =>
      have hl : g.length ≤ j := List.getElem?_eq_none_iff.1 hr
      unfold firstN at ih ⊢
      rw [List.take_of_length_le (by omega)]
      rw [List.take_of_length_le (by omega)] at ih
      omega
theorem own_ne_t {w : World} {base n size k : Nat} {e T : TypeId} {v : Value} {xs : List Value} {cs : Array Value} (hb : Blk w k T cs) (ho : w.ownsRow base e size v n xs) (hT : T ≠ e) : some k ≠ v.ownBlock := fun h => by
  rcases ho.2 with ⟨rfl, _⟩ | ⟨g, cap, cur, rfl, hb', hgg, _⟩
  · cases h
  · simp only [Value.ownBlock, Option.some.injEq] at h
    subst h
    have hb2 : w.heap[k]? = some (.cells cs T (0, 0)) := hb
    rw [hgg] at hb2
    injection hb2 with hb2
    injection hb2 with e1 e2 e3
    exact hT e2.symm
theorem own_cell {w : World} {base n i F cap : Nat} {e : TypeId} {xs : List Value} {u : Value} (ho : w.ownsRow base e 1 (.slice (some ⟨F, 0, none⟩) n cap) n xs) (h : xs[i]? = some u) : w.cell? ⟨F, i, none⟩ = some u := by
  rcases ho.2 with ⟨h1, _⟩ | ⟨g, cap', cur, h1, hb', hgg, _, _, _, hx⟩
  · cases h1
  · injection h1 with h1 h2 h3
    injection h1 with h1
    injection h1 with h1
    subst h1
    rw [cell_of_row w F i cur e (0, 0) hgg, ← Array.getElem?_toList]
    have hi := getElem?_lt h
    rw [← hx, List.getElem?_take] at h
    split at h
    · exact h
    · cases h
def natV (l : List Nat) : List Value := l.map fun x : Nat => Value.int .i64 x
/-- what New leaves -/
def NewQ (g : List Rl) (s : ByteArray) (A : Option Addr) (cp : Nat) (row : Nat → List Value) (w : World) (e : Ending) (w' : World) : Prop := ∃ c : PC, c.g = g ∧ c.s = s ∧ c.hook = .nilFunc ∧ (c.hk = false ∧ c.lim = 1000000000000 ∧ c.B ≤ c.F ∧ c.A = A ∧ c.cp = cp ∧ c.row = row) ∧ e = .returned (.pointer (some ⟨c.P, 0, none⟩)) ∧ c.Ok ∧ Par c w' ps0 ∧ Below w.heap.size w w' ∧ c.B = w.heap.size
/-- the parser's cells while it is made -/
def newC (A : Option Addr) (n cp : Nat) (s : ByteArray) (M : Nat) (fv : Value) : Array Value :=
  #[.slice A n cp, .string s, .map (some M), .slice none 0 0, .int .i64 (-1), .int .u64 0, .int .u64 0, .int .u64 0, .int .u64 0, .nilFunc, fv]

set_option maxRecDepth 100000 in
set_option maxHeartbeats 8000000 in
theorem new_any {g : List Rl} {A : Option Addr} {cp : Nat} {row : Nat → List Value} {w : World} (h : GrIs w w.heap.size g A cp row) (h0 : 0 < g.length) (h10 : g.length ≤ 10) (h60 : ∀ r ∈ g, nodes r.2 ≤ 60) (s : ByteArray) :
    Calls Tryz.prog 25 #[.agg #[.slice A g.length cp], .string s] w (NewQ g s A cp row w) := by
  have hmm := @run_makeMap Tryz.prog
  obtain ⟨i0, hi, hz0, hz1, hz2⟩ := info_parts int_info_
  have H := Lib.hid h
  have H60 := Lib.hid h60
  have hfl := firstN_le h60
  have HFL := Lib.hid hfl
  clear h h60 hfl
  go_enter Tryz.func25, Tryz.ntmps25
  go_wp2
  go_loopw [6, 17] (fun n i wr => ∃ (j : Nat) (fv : Value), j ≤ g.length ∧ i = .int .i64 j ∧ n = .int .i64 (firstN g j : Nat) ∧ Blk wr (w.heap.size + 1 + 1) 78 (newC A g.length cp s (w.heap.size + 1) fv) ∧ Hid (wr.ownsRow (w.heap.size + 3) 3 1 fv j (natV (firstsN g j))) ∧ Hid (Memo wr (w.heap.size + 1) []) ∧ Below w.heap.size w wr ∧ w.heap.size + 3 ≤ wr.heap.size) (fun _ i _ => g.length - (intOf i).toNat)
  case atStart =>
    refine ⟨0, .slice none 0 0, by omega, rfl, rfl, blk_at (by simp), World.ownsRow_nil _ _ _ _, ?_, (by repeat (first | exact Below.refl _ _ | assumption | refine Below.drew ?_ | refine below_drewN ?_ _ | refine Below.alloc ?_ (by first | omega | (simp; omega) | simp) _ | refine Below.setCell ?_ (by first | omega | (simp; omega) | simp) _)), by simp⟩
    have h1 := memo_made (w.alloc (.cells #[.slice A g.length cp] 24))
    rw [show (w.alloc (.cells #[.slice A g.length cp] 24)).heap.size = w.heap.size + 1 by simp] at h1
    exact h1.kept (grown_of_below ((Below.refl _ _).alloc (Nat.le_refl _) _) none) (by simp)
  case round =>
    obtain ⟨j, fv, hj, rfl, rfl, hbx, HO, HMe, hwr, hz3⟩ := hrel
    obtain ⟨V, c', rfl⟩ := own_form HO.out
    have hfj := HFL.out j
    have hpl := hbx.lt
    have p10 : wr.cell? ⟨w.heap.size + 1 + 1, 10, none⟩ = some (.slice V j c') := hbx.cell 10
    have hwz := hwr.size
    by_cases hjk : j < g.length
    · obtain ⟨ad, nm, k', a', b', c1, d', t', ks', A', cp', rfl, hab, hej, hnm, hE, ⟨e0, e1, e2, e3, e4, e5, e6, e7⟩⟩ := (H.out.on hwr).rule hjk
      have hfs := firstN_succ hej
      have hn60 := H60.out _ (List.mem_of_getElem? hej)
      have hcn := fun W (hW : Below w.heap.size w W) => countK_any _ _ W (hE.keep hW.size fun _ hp => (hW.cell hp).trans (hwr.cell hp).symm) (by simp only at hn60; omega)
      have hnewc : ∀ (u : Nat) (v : Value), [Value.int .i64 (firstN g j : Nat)][u]? = some v → ((wr.alloc (.cells #[.string nm, .int .i64 k', .int .u64 a', .int .u64 b', .int .u64 c1, .int .u64 d', .string t', .slice A' ks'.length cp'] 68)).alloc (.cells #[.int .i64 (firstN g j : Nat)] 3)).cell? ((⟨wr.heap.size + 1, 0, none⟩ : Addr).add u) = some v := by
        have h1 := new_cells (wr.alloc (.cells #[.string nm, .int .i64 k', .int .u64 a', .int .u64 b', .int .u64 c1, .int .u64 d', .string t', .slice A' ks'.length cp'] 68)) 3 [.int .i64 (firstN g j : Nat)]
        rw [show (wr.alloc (.cells #[.string nm, .int .i64 k', .int .u64 a', .int .u64 b', .int .u64 c1, .int .u64 d', .string t', .slice A' ks'.length cp'] 68)).heap.size = wr.heap.size + 1 by simp] at h1
        exact h1
      have hbr : Blk ((wr.alloc (.cells #[.string nm, .int .i64 k', .int .u64 a', .int .u64 b', .int .u64 c1, .int .u64 d', .string t', .slice A' ks'.length cp'] 68)).alloc (.cells #[.int .i64 (firstN g j : Nat)] 3)) wr.heap.size 68 #[.string nm, .int .i64 k', .int .u64 a', .int .u64 b', .int .u64 c1, .int .u64 d', .string t', .slice A' ks'.length cp'] := (blk_at rfl).alloc _
      unfold exCells at hcn
      have HNC := Lib.hid hnewc
      have HCN := Lib.hid hcn
      have HFS := Lib.hid hfs
      have HBR := Lib.hid hbr
      have HBX := Lib.hid hbx
      simp only at hn60
      generalize nodes (.mk k' a' b' c1 d' t' ks') = nn at HFS HCN hn60
      generalize hq : firstN g j = q at hfj HNC HFS HBR
      have HQ := Lib.hid hq
      clear hnewc hcn hfs hE hej hbr hq
      have hq600 : q ≤ 600 := by omega
      go_wp2_with (at_builtin; refine wpList_append_own _ rfl _ _ _ rfl (w.heap.size + 3) 3 i0 _ 1 8 Tryz.underlying76 hi hz0 hz1 hz2 rfl (by decide) _ _ _ rfl ((HO.out.alloc _).alloc _) ⟨wr.heap.size + 1, 0, none⟩ 1 1 [.int .i64 q] rfl rfl HNC.out (by simp [Value.oneCell']) (by unfold maxLen; omega) (by omega) (by simp; omega) ?_; intro v' w2 hown2 hgr2 _; obtain ⟨V2, c2, rfl⟩ := own_form hown2; have hP2 := ((HBX.out.alloc _).alloc _).grown hgr2 (own_ne HO.out (by omega)); have s10 : w2.cell? ⟨w.heap.size + 1 + 1, 10, none⟩ = some (.slice V j c') := hP2.cell 10; have f10 := hP2.frozen 10; have hB2 := HBR.out.grown hgr2 (own_ne_t HBR.out ((HO.out.alloc _).alloc _) (by decide)); have hgs := hgr2.size; have y0 : w2.cell? ⟨wr.heap.size, 0, none⟩ = some (.string nm) := hB2.cell 0; have y1 : w2.cell? ⟨wr.heap.size, 1, none⟩ = some (.int .i64 k') := hB2.cell 1; have y2 : w2.cell? ⟨wr.heap.size, 2, none⟩ = some (.int .u64 a') := hB2.cell 2; have y3 : w2.cell? ⟨wr.heap.size, 3, none⟩ = some (.int .u64 b') := hB2.cell 3; have y4 : w2.cell? ⟨wr.heap.size, 4, none⟩ = some (.int .u64 c1) := hB2.cell 4; have y5 : w2.cell? ⟨wr.heap.size, 5, none⟩ = some (.int .u64 d') := hB2.cell 5; have y6 : w2.cell? ⟨wr.heap.size, 6, none⟩ = some (.string t') := hB2.cell 6; have y7 : w2.cell? ⟨wr.heap.size, 7, none⟩ = some (.slice A' ks'.length cp') := hB2.cell 7)
      have hw2 : Below w.heap.size w w2 := below_app ((hwr.alloc hwz _).alloc (by simp; omega) _) ((HO.out.alloc _).alloc _) hgr2 (by simp; omega) (by omega)
      have hw2z := hw2.size
      refine (HCN.out _ (hw2.setCell (by simp; omega) _)).mono ?_
      rintro e w3 ⟨rfl, hb3⟩
      have hP3 : Blk w3 (w.heap.size + 1 + 1) 78 (newC (some ad) g.length cp s (w.heap.size + 1) (.slice V2 (j + 1) c2)) := (hP2.set_ 10 (.slice V2 (j + 1) c2)).below hb3 (by have := hP2.lt; simpa [World.setCell] using this)
      have hgp : w2.grownBy (w2.setCell ⟨w.heap.size + 1 + 1, 10, none⟩ (.slice V2 (j + 1) c2)) (some (w.heap.size + 1 + 1)) := ⟨rfl, rfl, rfl, by simp [World.setCell], fun k hk hne => Below.heap_setCell w2 ⟨w.heap.size + 1 + 1, 10, none⟩ _ k (by rintro rfl; exact hne rfl)⟩
      have hO3 := own_below (own_far hown2 hgp (by omega)) hb3
      have hM2 := (((HMe.out.kept (grown_of_below (((Below.refl _ wr).alloc (Nat.le_refl _) _).alloc (by simp) _) none) (by simp)).kept hgr2 (own_ne HO.out (by omega))).kept hgp (by simp)).kept (grown_of_below hb3 none) (by simp)
      have hw3 : Below w.heap.size w w3 := (hw2.setCell (by simp; omega) _).trans (hb3.mono (by simpa [World.setCell] using hw2z))
      have hz4 : w.heap.size + 3 ≤ w3.heap.size := by have := hP3.lt; omega
      have hq1 : q + nn ≤ 700 := by omega
      clear y0 y1 y2 y3 y4 y5 y6 y7 s10 f10 hb3 hgp hown2 hP2 hB2
      go_wp2
      go_roundw
      case rel => exact ⟨j + 1, .slice V2 (j + 1) c2, by omega, by go_num, by rw [HFS.out]; go_num, hP3, (by show World.ownsRow _ _ _ _ _ _ _; rw [firstsN_succ, HQ.out, natV, List.map_append]; exact hO3), hM2, hw3, hz4⟩
      case measure => simp [intOf]; omega
    · obtain rfl : j = g.length := by omega
      obtain ⟨F, c3, hF⟩ := Joins.ownsRow_form HO.out h0
      simp only [Value.slice.injEq, true_and] at hF
      obtain ⟨rfl, rfl⟩ := hF
      have hFl := HO.out.lt F rfl
      go_wp2
      go_ret
      refine ⟨{ B := w.heap.size, P := w.heap.size + 1 + 1, M := w.heap.size + 1, F := F, base := wr.heap.size, A := A, n := g.length, cp := cp, fcp := c', s := s, hook := .nilFunc, firsts := firstsN g g.length, g := g, row := row, ob := w.heap.size + 1, bo := 0, hk := false, lim := 1000000000000 }, rfl, rfl, rfl, ⟨rfl, rfl, by simp; omega, rfl, rfl, rfl⟩, rfl, ⟨by simp; omega, by simp, by simp; omega, by simp; omega, by simp; omega, by simp; omega, by simp; omega, by simp; omega, by simp, rfl, fun i hi => ?_, Nat.le_refl _, fun h => (by cases h)⟩, ⟨⟨.slice none 0 0, hbx, World.ownsRow_nil _ _ _ _⟩, HMe.out, fun i x hi => ?_, by simp, H.out.on hwr, ⟨by simp [ps0], by simp [ps0], rfl⟩, fun h => (by cases h)⟩, hwr, rfl⟩
      · have hi' : i < g.length := hi
        simp [firstsN, hi']
      · have hi' : (firstsN g g.length)[i]? = some x := hi
        exact own_cell HO.out (by simp [natV, hi'])
end Go.Proofs.YtndhbdbfjkmloaaGreatDoor
namespace Go.Proofs.YtndhbdbfjkmloaaGreatDoor
open Go.RowKit Go.Maps

/-- it comes to this -/
def Sem (g : List Rl) (s : List UInt8) (e : Ex) (p : Nat) (o : Option Nat) : Prop := ∃ n, ev g s n e p = some o
theorem Sem.eq {g : List Rl} {s : List UInt8} {e : Ex} {p : Nat} {o o' : Option Nat} (h : Sem g s e p o) (h' : Sem g s e p o') : o = o' := by
  obtain ⟨n, h⟩ := h
  obtain ⟨m, h'⟩ := h'
  exact ev_eq h h'

theorem agree0 (g : List Rl) (s : List UInt8) : Agree g s ps0 := fun i p o h => by cases h
theorem bound0 (L : Nat) : Bound L ps0 := fun i p n h => by cases h
/-- a rule of a grammar that is well comes to what it means -/
theorem rule_goes {g : List Rl} (W : WellG g) (s : List UInt8) {i p : Nat} {r : Rl} (hr : g[i]? = some r) (hp : p ≤ s.length) : ∃ o m σ1, Sem g s r.2 p o ∧ pk g s false m (.rule i) p ps0 = some (o, σ1) ∧ Agree g s σ1 := by
  obtain ⟨n, o, he⟩ := ends (s := s) W hp (W.good (List.mem_of_getElem? hr))
  obtain ⟨m, σ1, h1, h2, _⟩ := goes_rule (hook := false) (fits_of W.right) hp hr he (fun n0 _ o ho σ num hσ => (goes (fits_of W.right) n0).1 r.2 p o (W.right.rt r (List.mem_of_getElem? hr)) hp ho σ num hσ) (agree0 g s)
  exact ⟨o, m, σ1, ⟨n, he⟩, h1, h2⟩

theorem look_zero {g : List Rl} {s : ByteArray} (h : lookG g s = 0) : WellG g ∧ s.size ≤ 60 := by
  unfold lookG at h
  split at h
  · rename_i hc; exact absurd h hc
  rename_i hc
  split at h
  · simp at h
  · exact ⟨well_of (by simpa using hc), by omega⟩
theorem sixty_of {g : List Rl} (R : RightG g) : ∀ r ∈ g, nodes r.2 ≤ 60 := fun r hr => nodes_le (R.body r hr)
/-- a parser made of a grammar that is well is fit -/
theorem PC.fit {c : PC} (W : WellG c.g) (h60 : c.s.size ≤ 60) (hok : c.Ok) (hk : c.hk = false) (hl : c.lim = 1000000000000) (hh : c.hook = .nilFunc) (hwf : ∀ r ∈ c.g, WfE r.2) : c.Fit :=
  ⟨hok, .inl ⟨hk, hh⟩, by have := W.right.ten; omega, by rw [show c.s.data.toList.length = c.s.size from size_list _]; omega, fun r hr => ⟨W.right.rt r hr, hwf r hr⟩, fun i r hr => by
    have h1 := firstN_le (sixty_of W.right) i
    have h2 := (sixty_of W.right) r (List.mem_of_getElem? hr)
    have h3 := getElem?_lt hr
    have h4 := W.right.ten
    omega⟩

end Go.Proofs.YtndhbdbfjkmloaaGreatDoor
namespace Go.Proofs.YtndhbdbfjkmloaaGreatDoor
open Go.RowKit Go.Maps

theorem ownsRow_low {w : World} {base base' n size : Nat} {e : TypeId} {v : Value} {xs : List Value} (h : w.ownsRow base e size v n xs) (hb : base' ≤ base) : w.ownsRow base' e size v n xs := by
  refine ⟨h.1, ?_⟩
  rcases h.2 with h0 | ⟨g, cap, cur, h1, h2, h3⟩
  · exact .inl h0
  · exact .inr ⟨g, cap, cur, h1, by omega, h3⟩
theorem pk_last {g : List Rl} {s : List UInt8} {m i p : Nat} {o : Option Nat} {σ1 : PS} (h : pk g s false m (.rule i) p ps0 = some (o, σ1)) : ∃ l', σ1.log = l' ++ [(i, p, o.map (· - p))] := by
  cases m with
  | zero => cases h
  | succ m =>
    simp only [pk] at h
    have h0 : recall ps0.seen (i, p) = none := rfl
    rw [h0] at h
    simp only at h
    split at h
    · cases h
    · split at h
      · cases h
      · split at h
        · cases h
        · simp only [Option.some.injEq, Prod.mk.injEq] at h
          obtain ⟨rfl, rfl⟩ := h
          exact ⟨_, rfl⟩
/-- what Run answers -/
def RunQ (g : List Rl) (s : ByteArray) (w : World) (e : Ending) (w' : World) : Prop := Below w.heap.size w w' ∧
  ((lookG g s ≠ 0 ∧ e = .returned (.tuple #[outV none, .slice none 0 0, .int .i64 (lookG g s)])) ∨
   (lookG g s = 0 ∧ ∃ (o : Option Nat) (σ1 : PS) (V : Option Addr) (cp : Nat) (l' : List (Nat × Nat × Option Nat)), (∃ m, pk g s.data.toList false m (.rule 0) 0 ps0 = some (o, σ1)) ∧ Agree g s.data.toList σ1 ∧ Tight g s.size σ1 ∧ σ1.log = l' ++ [(0, 0, o)] ∧
     e = .returned (.tuple #[outV o, .slice V σ1.log.length cp, .int .i64 0]) ∧ w'.ownsRow w.heap.size 103 4 (.slice V σ1.log.length cp) σ1.log.length (σ1.log.flatMap stepC)))

set_option maxRecDepth 100000 in
set_option maxHeartbeats 8000000 in
theorem run_any {g : List Rl} {A : Option Addr} {cp : Nat} {row : Nat → List Value} {w : World} (h : GrIs w w.heap.size g A cp row) (hwf : ∀ r ∈ g, WfE r.2) (s : ByteArray) :
    Calls Tryz.prog 15 #[.agg #[.slice A g.length cp], .string s] w (RunQ g s w) := by
  have hlk := fun W (hW : Below w.heap.size w W) => mlook_any ((h.on hW).more hW.size) s
  have HLK := Lib.hid hlk
  have HG := Lib.hid h
  have HWF := Lib.hid hwf
  clear hlk h hwf
  by_cases hl0 : lookG g s = 0
  · obtain ⟨W, h60⟩ := look_zero hl0
    rw [hl0] at HLK
    have HL0 := Lib.hid hl0
    have HW := Lib.hid W
    have h10 := W.right.ten
    have hpos := W.right.pos
    clear hl0 W
    obtain ⟨r, hr⟩ : ∃ r, g[0]? = some r := ⟨_, List.getElem?_eq_getElem hpos⟩
    have hsl : s.data.toList.length = s.size := size_list s
    obtain ⟨o, m, σ1, hsem, hpk, hag⟩ := rule_goes HW.out s.data.toList hr (p := 0) (by omega)
    have hnew := fun W (hW : Below w.heap.size w W) => new_any ((HG.out.on hW).more hW.size) hpos h10 (sixty_of HW.out.right) s
    have HN := Lib.hid hnew
    have HPK := Lib.hid hpk
    have HAG := Lib.hid hag
    clear hnew hpk hsem hr hag
    go_enter Tryz.func15, Tryz.ntmps15
    go_wp2_with fail
    refine (HLK.out _ (by repeat (first | exact Below.refl _ _ | assumption | refine Below.drew ?_ | refine below_drewN ?_ _ | refine Below.alloc ?_ (by first | omega | (simp; omega) | simp) _ | refine Below.setCell ?_ (by first | omega | (simp; omega) | simp) _))).mono ?_
    rintro e w1 ⟨rfl, hb1⟩
    have hw1 : Below w.heap.size w w1 := (((Below.refl _ w).alloc (Nat.le_refl _) _).alloc (by simp) _).trans (hb1.mono (by simp; omega))
    have hgx : Blk w1 w.heap.size 24 #[.slice A g.length cp] := ((blk_at rfl).alloc _).below hb1 (by simp; omega)
    have hox : Blk w1 (w.heap.size + 1) 49 #[.bool false, .int .i64 0] := (blk_at (by simp)).below hb1 (by simp)
    have g0 : w1.cell? ⟨w.heap.size, 0, none⟩ = some (.slice A g.length cp) := hgx.cell 0
    clear hb1
    go_wp2_with fail
    refine (HN.out _ hw1).mono ?_
    rintro e w2 ⟨c, hcg, hcs, hch, ⟨hhk, hlm, -⟩, rfl, hok, hpar, hb2, hcB⟩
    have hw2 : Below w.heap.size w w2 := hw1.trans (hb2.mono hw1.size)
    have hox2 := hox.below hb2 hox.lt
    have F : c.Fit := PC.fit (by rw [hcg]; exact HW.out) (by rw [hcs]; exact h60) hok hhk hlm hch (by rw [hcg]; exact HWF.out)
    have hru := (does F m).2.2 0 0 ps0 (o, σ1) w2 (by rw [hcg, hcs, hhk]; exact HPK.out) (by rw [hcg]; exact hpos) (by omega) (bound0 _) hpar
    have HRU := Lib.hid hru
    have hzw := hw1.size
    have hxl := hox.lt
    have hBP := hok.BP
    have hBM := hok.BM
    have hBb := hok.Bb
    have hPs := hpar.size
    have hPb := hok.P
    clear hru hb2
    go_wp2_with fail
    refine HRU.out.mono ?_
    rintro e w3 ⟨⟨v, rfl, hv⟩, q1, q2⟩
    obtain ⟨b, n, hbn⟩ : ∃ (b : Bool) (n : Int), outV v = .agg #[.bool b, .int .i64 n] := by cases v <;> exact ⟨_, _, rfl⟩
    have hvo : v = o := by
      simp only at hv
      rw [hv]
      cases v with
      | none => rfl
      | some k => simp
    subst hvo
    obtain ⟨lv, hP, hrow⟩ := q1.par
    have hti := q1.tight
    obtain ⟨V, lc, rfl⟩ := own_form hrow
    obtain ⟨l', hl'⟩ := pk_last HPK.out
    rw [show v.map (· - 0) = v by cases v <;> rfl] at hl'
    rw [hcg, hcs, hsl] at hti
    have hox3 : Blk w3 (w.heap.size + 1) 49 #[.bool false, .int .i64 0] := q2.box hox2 (by decide) (by omega) (by omega)
    have hw3 : Below w.heap.size w w3 := hw2.trans (q2.below (by have := hw2.size; omega) (by omega) (by omega) (by omega))
    have hrow3 : (((w3.setCell ⟨w.heap.size + 1, 0, none⟩ (.bool b)).setCell ⟨w.heap.size + 1, 1, none⟩ (.int .i64 n)).alloc (.cells #[.bool b, .int .i64 n] 49)).drew.ownsRow w.heap.size 103 4 (.slice V σ1.log.length lc) σ1.log.length (σ1.log.flatMap stepC) := by
      have hne : ∀ (W : World), World.ownsRow W c.base 103 4 (.slice V σ1.log.length lc) σ1.log.length (σ1.log.flatMap stepC) → ∀ i u, World.ownsRow (W.setCell ⟨w.heap.size + 1, i, none⟩ u) c.base 103 4 (.slice V σ1.log.length lc) σ1.log.length (σ1.log.flatMap stepC) := fun W hW i u =>
        own_far hW (g := w.heap.size + 1) ⟨rfl, rfl, rfl, by simp [World.setCell], fun q hq hne => Below.heap_setCell W ⟨w.heap.size + 1, i, none⟩ u q (by rintro rfl; exact hne rfl)⟩ (by omega)
      have h0 := own_below (hne _ (hne _ hrow 0 (.bool b)) 1 (.int .i64 n)) ((Below.refl _ _).alloc (Nat.le_refl _) (.cells #[.bool b, .int .i64 n] 49))
      exact ownsRow_low h0 (by omega)
    have s3 : w3.cell? ⟨c.P, 3, none⟩ = some (.slice V σ1.log.length lc) := hP.cell 3
    have hox4 : Blk (w3.alloc (.cells #[.bool b, .int .i64 n] 49)) (w.heap.size + 1) 49 #[.bool false, .int .i64 0] := hox3.alloc _
    have hbx4 : Blk (w3.alloc (.cells #[.bool b, .int .i64 n] 49)) w3.heap.size 49 #[.bool b, .int .i64 n] := blk_at rfl
    have yz0 : w3.cell? ⟨w.heap.size + 1, 0, none⟩ = some (.bool false) := hox3.cell 0; have yz1 : w3.cell? ⟨w.heap.size + 1, 1, none⟩ = some (.int .i64 0) := hox3.cell 1; have yf0 := hox3.frozen 0; have yf1 := hox3.frozen 1; have ye0 : (w3.setCell ⟨w.heap.size + 1, 0, none⟩ (.bool b)).cell? ⟨w.heap.size + 1, 0, none⟩ = some (.bool b) := (hox3.set_ 0 _).cell 0; have ye1 : ((w3.setCell ⟨w.heap.size + 1, 0, none⟩ (.bool b)).setCell ⟨w.heap.size + 1, 1, none⟩ (.int .i64 n)).cell? ⟨w.heap.size + 1, 1, none⟩ = some (.int .i64 n) := ((hox3.set_ 0 _).set_ 1 _).cell 1
    have hox6 := ((((hox3.set_ 0 (.bool b)).set_ 1 (.int .i64 n)).alloc (.cells #[.bool b, .int .i64 n] 49)).drew)
    have yg0 : (((w3.setCell ⟨w.heap.size + 1, 0, none⟩ (.bool b)).setCell ⟨w.heap.size + 1, 1, none⟩ (.int .i64 n)).alloc (.cells #[.bool b, .int .i64 n] 49)).drew.cell? ⟨w.heap.size + 1, 0, none⟩ = some (.bool b) := hox6.cell 0
    have yg1 : (((w3.setCell ⟨w.heap.size + 1, 0, none⟩ (.bool b)).setCell ⟨w.heap.size + 1, 1, none⟩ (.int .i64 n)).alloc (.cells #[.bool b, .int .i64 n] 49)).drew.cell? ⟨w.heap.size + 1, 1, none⟩ = some (.int .i64 n) := hox6.cell 1
    have HG0 := Lib.hid yg0
    have HG1 := Lib.hid yg1
    clear yg0 yg1 hox6
    have z0 : w3.cell? ⟨w.heap.size + 1, 0, none⟩ = some (.bool false) := hox3.cell 0
    have z1 : w3.cell? ⟨w.heap.size + 1, 1, none⟩ = some (.int .i64 0) := hox3.cell 1
    have f0 := hox3.frozen 0
    have f1 := hox3.frozen 1
    have hl3 := hox3.lt
    have hPl := hP.lt
    have hPne : c.P ≠ w.heap.size + 1 := by omega
    have hne3 : w3.heap.size ≠ w.heap.size + 1 := by omega
    have HTI := Lib.hid hti
    have HRW := Lib.hid hrow3
    have HLL := Lib.hid hl'
    rw [hbn]
    clear q1 q2 HRU hpar hok F hrow hP hti hrow3 hl' hox4 hbx4
    go_wp2_with fail
    go_region
    all_goals
      go_wp2
      exact bodyPost_ret (v := .tuple #[.agg #[.bool b, .int .i64 n], .slice V σ1.log.length lc, .int .i64 0]) (by simp only [results, Tryz.results15]; simp [go_sem, HG0.out, HG1.out]) rfl ⟨(by repeat (first | exact Below.refl _ _ | assumption | refine Below.drew ?_ | refine below_drewN ?_ _ | refine Below.alloc ?_ (by first | omega | (simp; omega) | simp) _ | refine Below.setCell ?_ (by first | omega | (simp; omega) | simp) _)), .inr ⟨HL0.out, v, σ1, V, lc, l', ⟨m, HPK.out⟩, HAG.out, HTI.out, HLL.out, by rw [hbn], HRW.out⟩⟩
  · have hxb : (lookG g s != 0) = true := by rw [bne_iff_ne]; exact hl0
    have H0 := Lib.hid hl0
    have HX : Hid (∃ x, lookG g s = x ∧ x ≠ 0) := ⟨_, rfl, hl0⟩
    clear hl0
    go_enter Tryz.func15, Tryz.ntmps15
    go_wp2_with fail
    refine (HLK.out _ (by repeat (first | exact Below.refl _ _ | assumption | refine Below.drew ?_ | refine below_drewN ?_ _ | refine Below.alloc ?_ (by first | omega | (simp; omega) | simp) _ | refine Below.setCell ?_ (by first | omega | (simp; omega) | simp) _))).mono ?_
    rintro e w1 ⟨rfl, hb1⟩
    have hw1 : Below w.heap.size w w1 := (((Below.refl _ w).alloc (Nat.le_refl _) _).alloc (by simp) _).trans (hb1.mono (by simp; omega))
    have hox : Blk w1 (w.heap.size + 1) 49 #[.bool false, .int .i64 0] := (blk_at (by simp)).below hb1 (by simp)
    have yz0 : w1.cell? ⟨w.heap.size + 1, 0, none⟩ = some (.bool false) := hox.cell 0; have yz1 : w1.cell? ⟨w.heap.size + 1, 1, none⟩ = some (.int .i64 0) := hox.cell 1; have yf0 := hox.frozen 0; have yf1 := hox.frozen 1; have ye0 : (w1.setCell ⟨w.heap.size + 1, 0, none⟩ (.bool false)).cell? ⟨w.heap.size + 1, 0, none⟩ = some (.bool false) := (hox.set_ 0 _).cell 0; have ye1 : ((w1.setCell ⟨w.heap.size + 1, 0, none⟩ (.bool false)).setCell ⟨w.heap.size + 1, 1, none⟩ (.int .i64 0)).cell? ⟨w.heap.size + 1, 1, none⟩ = some (.int .i64 0) := ((hox.set_ 0 _).set_ 1 _).cell 1
    have hzw := hw1.size
    clear hb1
    go_wp2
    exact bodyPost_ret (v := .tuple #[.agg #[.bool false, .int .i64 0], .slice none 0 0, .int .i64 (lookG g s)]) (by simp [results, Tryz.results15, go_sem, ye0, ye1]) rfl ⟨(by repeat (first | exact Below.refl _ _ | assumption | refine Below.drew ?_ | refine below_drewN ?_ _ | refine Below.alloc ?_ (by first | omega | (simp; omega) | simp) _ | refine Below.setCell ?_ (by first | omega | (simp; omega) | simp) _)), .inl ⟨H0.out, rfl⟩⟩
end Go.Proofs.YtndhbdbfjkmloaaGreatDoor
namespace Go.Proofs.YtndhbdbfjkmloaaGreatDoor
open Go.RowKit

/-- a literal, a reference, a node of kids -/
def litE (t : ByteArray) : Ex := .mk 3 0 0 0 0 t []
theorem ExIs.grow {w w' : World} {e : Ex} {cs : List Value} (h : ExIs w w.heap.size e cs) (hb : Below w.heap.size w w') : ExIs w' w'.heap.size e cs := h.keep hb.size fun _ hp => hb.cell hp
theorem GrIs.grow {w w' : World} {g : List Rl} {A : Option Addr} {cp : Nat} {row : Nat → List Value} (h : GrIs w w.heap.size g A cp row) (hb : Below w.heap.size w w') : GrIs w' w'.heap.size g A cp row := h.keep hb.size fun _ hp => hb.cell hp
theorem litE_is (w : World) (t : ByteArray) (ht : t.size ≤ maxLen) : ExIs w w.heap.size (litE t) (exCells 3 0 0 0 0 t none 0 0) := ExIs.leaf w _ 3 0 0 0 0 t ht
theorem cell_add (w : World) (g i : Nat) : w.cell? ((⟨g, 0, none⟩ : Addr).add i) = w.cell? ⟨g, i, none⟩ := by
  cases i with
  | zero => rfl
  | succ i => simp [Addr.add]
theorem add_at (g i j : Nat) : ((⟨g, 0, none⟩ : Addr).add i).add j = (⟨g, 0, none⟩ : Addr).add (i + j) := by
  cases i with
  | zero => cases j with
    | zero => rfl
    | succ j => simp [Addr.add]
  | succ i => cases j with
    | zero => rfl
    | succ j => simp [Addr.add]
/-- a grammar of one rule -/
theorem gr_one {W : World} {b : Nat} {T : TypeId} {e : Ex} {r : List Value} {cs : Array Value} {nm : ByteArray} (hn : nm.size ≤ maxLen) (h : ExIs W W.heap.size e r) (hb : Blk W b T cs) (hcs : cs.toList = .string nm :: r) : GrIs W W.heap.size [(nm, e)] (some ⟨b, 0, none⟩) 1 (fun _ => r) := by
  refine ⟨by simp, by unfold maxLen; omega, fun h => (by cases h), fun _ => ⟨_, rfl, hb.lt⟩, fun i x hx => ?_, fun i x hx => ?_, fun i x ad hx hA => ?_, fun i x ad hx hA j u hu => ?_⟩
  · match i, hx with
    | 0, hx => simp at hx; subst hx; exact hn
  · match i, hx with
    | 0, hx => simp at hx; subst hx; exact h
  · match i, hx with
    | 0, hx =>
      simp at hx; subst hx; injection hA with hA; subst hA
      rw [Nat.zero_mul, cell_add, hb.cell, ← Array.getElem?_toList, hcs]; rfl
  · match i, hx with
    | 0, hx =>
      simp at hx; subst hx; injection hA with hA; subst hA
      rw [Nat.zero_mul, add_at, cell_add, hb.cell, ← Array.getElem?_toList, hcs, Nat.zero_add, List.getElem?_cons_succ]; exact hu

def nameA : ByteArray := ⟨#[97]⟩
end Go.Proofs.YtndhbdbfjkmloaaGreatDoor
namespace Go.Proofs.YtndhbdbfjkmloaaGreatDoor
open Go.RowKit Go.Maps

theorem run_same_out (w : World) (b b' : Bool) (n n' : Int) : (Op.equalIn 10000 49 (.agg #[.bool b, .int .i64 n]) (.agg #[.bool b', .int .i64 n'])).run Tryz.prog w = .ok (b == b' && n == n') w := by
  have u4 := Tryz.underlying4
  have a4 := Tryz.isAgg4
  have z4 := Tryz.sizeOf4
  have u3 := Tryz.underlying3
  have a3 := Tryz.isAgg3
  have z3 := Tryz.sizeOf3
  have hS : Tryz.prog.underlying 49 = some (.struct (Tryz.prog.fieldsOf 49)) := by kernel_rfl
  have hp : Tryz.prog.stoodInHeld 49 = false := by kernel_rfl
  rw [show (10000 : Nat) = 9999 + 1 from rfl, run_equalIn_agg w 9999 49 _ _ hS hp]
  simp only [Program.fieldsOf, Tryz.underlying49]
  go_simp
  cases b <;> cases b' <;> cases h : (n == n') <;> simp_all
theorem outV_eq (v : Option Nat) : outV v = .agg #[.bool v.isSome, .int .i64 (v.getD 0 : Nat)] := by cases v <;> rfl
section
variable {g : List Rl} (a s : List UInt8)
end
end Go.Proofs.YtndhbdbfjkmloaaGreatDoor
namespace Go.Proofs.YtndhbdbfjkmloaaGreatDoor
open Go.RowKit Go.Maps

theorem look_lt : ∀ (e : Ex) (n d : Nat), 0 ≤ (lookN e n d).1 ∧ (lookN e n d).1 ≤ 5 := by
  intro e
  refine Ex.ind (P := fun e => ∀ (n d : Nat), 0 ≤ (lookN e n d).1 ∧ (lookN e n d).1 ≤ 5) ?_ e
  intro k a b c d t ks ih n dp
  rw [lookN]
  split
  · simp only; omega
  split
  · simp only; omega
  split
  · simp only; omega
  · have : ∀ (es : List Ex), (∀ e ∈ es, e ∈ ks) → ∀ n d, 0 ≤ (looks es n d).1 ∧ (looks es n d).1 ≤ 5 := by
      intro es
      induction es with
      | nil => intro _ n d; rw [looks]; simp only; omega
      | cons e es ihe =>
        intro hm n d
        rw [looks]
        split
        · exact ihe (fun x hx => hm x (by simp [hx])) _ _
        · exact ih e (hm e (by simp)) n d
    exact this ks (fun e he => he) _ _
theorem check_lt (g : List Rl) : 0 ≤ checkG g ∧ checkG g ≤ 7 := by
  have h1 : ∀ (l : List Rl) (i all : Nat), 0 ≤ (chk1 g l i all).1 ∧ (chk1 g l i all).1 ≤ 7 := by
    intro l
    induction l with
    | nil => intro i all; rw [chk1]; simp only; omega
    | cons r l ih =>
      intro i all
      rw [chk1]
      split
      · simp only; omega
      split
      · simp only; omega
      split
      · have := look_lt r.2 0 1
        simp only
        unfold checkE
        omega
      · exact ih _ _
  have h2 : ∀ (l : List Rl), 0 ≤ chk2 g l ∧ chk2 g l ≤ 7 := by
    intro l
    induction l with
    | nil => rw [chk2]; omega
    | cons r l ih =>
      rw [chk2]
      split
      · omega
      · exact ih
  unfold checkG
  split
  · omega
  split
  · omega
  split
  · exact h1 g 0 0
  split
  · omega
  · exact h2 g
section
variable {g : List Rl} {s : List UInt8} {hook : Bool} {fs : List Fa}
/-- what a try makes is what the grammar means -/
theorem pk_goesA (H : Fits g fs) {n m num p : Nat} {e : Ex} {u u' : Option Nat} {σ σ1 : PS} (hrt : Rt g e) (hp : p ≤ s.length) (he : ev g s n e p = some u) (hσ : Agree g s σ) (h : pk g s hook m (.try_ e num) p σ = some (u', σ1)) : u' = u ∧ Agree g s σ1 := by
  obtain ⟨m0, σ0, h0, ha, _⟩ := ((goes (hook := hook) H n).1 e p u hrt hp he σ num hσ).try_
  have e1 := pk_le h0 (Nat.le_max_left m0 m)
  have e2 := pk_le h (Nat.le_max_right m0 m)
  rw [e1] at e2
  injection e2 with e2
  injection e2 with e2 e3
  subst e2 e3
  exact ⟨rfl, ha⟩
end
/-- what Run finds is what the grammar means -/
theorem sem_run {g : List Rl} (W : WellG g) {s : List UInt8} {n m : Nat} {r : Rl} {o o' : Option Nat} {σ1 : PS} (hr : g[0]? = some r) (he : ev g s n r.2 0 = some o) (hpk : pk g s false m (.rule 0) 0 ps0 = some (o', σ1)) : o' = o := by
  cases m with
  | zero => cases hpk
  | succ m =>
    have H := fits_of W.right
    have hrt := W.right.rt r (List.mem_of_getElem? hr)
    simp only [pk] at hpk
    have h0 : recall ps0.seen (0, 0) = none := rfl
    rw [h0, hr] at hpk
    simp only at hpk
    cases hq : pk g s false m (.try_ r.2 (firstN g 0)) 0 ps0 with
    | none => rw [hq] at hpk; cases hpk
    | some x =>
      obtain ⟨u, σ2⟩ := x
      obtain ⟨rfl, _⟩ := pk_goesA (hook := false) H hrt (Nat.zero_le _) he (agree0 g s) hq
      rw [hq] at hpk
      simp only at hpk
      split at hpk
      · cases hpk
      · simp only [Option.some.injEq, Prod.mk.injEq] at hpk
        obtain ⟨rfl, rfl⟩ := hpk
        rfl

/-- what a grammar makes of a text -/
noncomputable def outG (g : List Rl) (s : ByteArray) : Option Nat := Classical.epsilon fun o => ∃ r, g[0]? = some r ∧ Sem g s.data.toList r.2 0 o
theorem outG_is {g : List Rl} {s : ByteArray} {r : Rl} {o : Option Nat} (hr : g[0]? = some r) (h : Sem g s.data.toList r.2 0 o) : outG g s = o := by
  obtain ⟨r', hr', h'⟩ := Classical.epsilon_spec (p := fun o => ∃ r, g[0]? = some r ∧ Sem g s.data.toList r.2 0 o) ⟨o, r, hr, h⟩
  rw [hr] at hr'
  injection hr' with hr'
  subst hr'
  exact h'.eq h
theorem run_out {g : List Rl} {s : ByteArray} (hl0 : lookG g s = 0) {m : Nat} {o : Option Nat} {σ1 : PS} (h : pk g s.data.toList false m (.rule 0) 0 ps0 = some (o, σ1)) : outG g s = o ∧ ∀ k, o = some k → k ≤ s.size := by
  obtain ⟨W, h60⟩ := look_zero hl0
  have hpos := W.right.pos
  obtain ⟨r, hr⟩ : ∃ r, g[0]? = some r := ⟨_, List.getElem?_eq_getElem hpos⟩
  obtain ⟨n, o', he⟩ := ends (s := s.data.toList) W (p := 0) (by omega) (W.good (List.mem_of_getElem? hr))
  obtain rfl := sem_run W hr he h
  refine ⟨outG_is hr ⟨n, he⟩, fun k hk => ?_⟩
  have ht := (told (s := s.data.toList) (fits_of W.right) n).1 r.2 0 o (W.right.rt r (List.mem_of_getElem? hr)) (by omega) he
  rw [hk] at ht
  have := ht.2.1
  rw [size_list] at this
  exact this
/-- what list.Accepts answers -/
noncomputable def accG (g : List Rl) (s : ByteArray) : Bool := decide (lookG g s = 0) && ((outG g s).isSome && decide ((outG g s).getD 0 = s.size))

set_option maxRecDepth 100000 in
set_option maxHeartbeats 4000000 in
theorem acc_any {g : List Rl} {A : Option Addr} {cp : Nat} {row : Nat → List Value} {w : World} (h : GrIs w w.heap.size g A cp row) (hwf : ∀ r ∈ g, WfE r.2) (s : ByteArray) :
    Calls Tryz.prog 8 #[.agg #[.slice A g.length cp], .string s] w fun e w' => e = .returned (.tuple #[.bool (accG g s), .int .i64 (lookG g s)]) ∧ Below w.heap.size w w' := by
  have hrn := fun W (hW : Below w.heap.size w W) => run_any (h.grow hW) hwf s
  have HR := Lib.hid hrn
  generalize hY : accG g s = Y
  generalize hX : lookG g s = X
  have HY := Lib.hid hY
  have HX := Lib.hid hX
  clear hrn h hwf hX hY
  go_enter Tryz.func8, Tryz.ntmps8
  go_wp2_with fail
  refine (HR.out _ (by repeat (first | exact Below.refl _ _ | assumption | refine Below.drew ?_ | refine below_drewN ?_ _ | refine Below.alloc ?_ (by first | omega | (simp; omega) | simp) _ | refine Below.setCell ?_ (by first | omega | (simp; omega) | simp) _))).mono ?_
  rintro e w1 ⟨hb1, hq⟩
  have hw1 : Below w.heap.size w w1 := ((Below.refl _ w).alloc (Nat.le_refl _) _).trans (hb1.mono (by simp))
  have hz1 := hw1.size
  clear hb1
  rcases hq with ⟨hne, rfl⟩ | ⟨hl0, o, σ1, V, lc, l', ⟨m, hpk⟩, ha, ht, hl, rfl, ho⟩
  · rw [HX.out] at hne ⊢
    have hxb : (X == 0) = false := by rw [beq_eq_false_iff_ne]; exact hne
    obtain rfl : Y = false := by rw [← HY.out]; unfold accG; rw [HX.out, decide_eq_false hne, Bool.false_and]
    rw [outV_eq]
    clear hne HX HY
    go_wp2
    go_ret2
    exact ⟨rfl, (by repeat (first | exact Below.refl _ _ | assumption | refine Below.drew ?_ | refine below_drewN ?_ _ | refine Below.alloc ?_ (by first | omega | (simp; omega) | simp) _ | refine Below.setCell ?_ (by first | omega | (simp; omega) | simp) _))⟩
  · clear ha ht hl ho
    obtain ⟨h1, h2⟩ := run_out hl0 hpk
    have hy : Y = (o.isSome && decide (o.getD 0 = s.size)) := by rw [← HY.out]; unfold accG; rw [hl0, h1]; rfl
    obtain rfl : X = 0 := by rw [← HX.out]; exact hl0
    rw [outV_eq]
    clear hl0 hpk h1 h2 HX HY
    generalize σ1.log.length = ll
    cases o with
    | none =>
      obtain rfl : Y = false := hy
      go_wp2
      go_ret2
      exact ⟨rfl, (by repeat (first | exact Below.refl _ _ | assumption | refine Below.drew ?_ | refine below_drewN ?_ _ | refine Below.alloc ?_ (by first | omega | (simp; omega) | simp) _ | refine Below.setCell ?_ (by first | omega | (simp; omega) | simp) _))⟩
    | some k =>
      have hy2 : Y = decide (k = s.size) := hy
      have hk : ((k : Int) == (s.size : Int)) = decide (k = s.size) := by rw [Bool.eq_iff_iff]; simp; omega
      rw [← hk] at hy2
      clear hk hy
      subst hy2
      simp only [Option.isSome_some, Option.getD_some]
      go_wp2
      go_ret2
      exact ⟨rfl, (by repeat (first | exact Below.refl _ _ | assumption | refine Below.drew ?_ | refine below_drewN ?_ _ | refine Below.alloc ?_ (by first | omega | (simp; omega) | simp) _ | refine Below.setCell ?_ (by first | omega | (simp; omega) | simp) _))⟩

end Go.Proofs.YtndhbdbfjkmloaaGreatDoor
