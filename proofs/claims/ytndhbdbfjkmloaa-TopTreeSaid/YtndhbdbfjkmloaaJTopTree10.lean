/- (*Parser).Rule. (*Parser).node whole; what a parser does, by induction on the fuel. (*Parser).node whole; what a parser does, by induction on the fuel. What a parser does, by induction on the fuel. pack.New. -/
import Derived.Test.YtndhbdbfjkmloaaJTopTree9
import Derived.Deep.RegionLawGrows
import Derived.Deep.DeepCutAuto
import Derived.Lib.SmallJoins
namespace Go.Proofs.Ytndhbdbfjkmloaa
open Go.RowKit Go.Maps

/-- append to a row of one's own, as one step of a region that draws -/
theorem step_append_own {P : Program} {ops : Array Oper} {o : Oper} {a : Act} {w : World} {K : Act → World → Prop} {Q : Exit → Act → World → Prop} {E : Prop}
    (hg : o.guard = none) (s x : Operand) (t : TypeId) (hop : o.op = Op.call { callee := Callee.builtin Builtin.append, args := #[s, x], argTypes := #[t, t] })
    (base : Nat) (e : TypeId) (i : TypeInfo) (z : Value) (size bytes : Nat) (h1 : P.underlying t = some (.slice e)) (h2 : P.info? e = some i) (h3 : i.zero = some z) (h4 : i.size = size) (h5 : i.bytes = bytes) (h6 : z.cells.size = size) (h7 : 0 < size)
    (v : Value) (n : Nat) (xs : List Value) (hs : a.eval s = v) (hown : w.ownsRow base e size v n xs)
    (ad : Addr) (m c : Nat) (news : List Value) (hx : a.eval x = .slice (some ad) m c) (hn : news.length = m * size) (hc : ∀ j u, news[j]? = some u → w.cell? (ad.add j) = some u) (h1c : ∀ u ∈ news, u.oneCell' = true)
    (b1 : n + m ≤ maxLen) (b2 : (n + m) * bytes ≤ 140737488355328) (hb : base ≤ w.heap.size)
    (hK : ∀ v' w', w'.ownsRow base e size v' (n + m) (xs ++ news) → w.grownBy w' v.ownBlock → K (a.put o.dst v') w') :
    if Region.wanted o (yielded ops a.tmps) = true then Oper.wp P o a w K Q else E := by
  have hw : Region.wanted o (yielded ops a.tmps) = true := by simp [Region.wanted, hg]
  rw [if_pos hw]
  obtain ⟨v', w', hrun, r1, r2, _⟩ := run_append_own (P := P) w base t o.type e i z size bytes h1 h2 h3 h4 h5 h6 h7 v n xs hown ad m c news hn hc h1c b1 b2 hb
  unfold Oper.wp
  simp [execOp, hop, resolve, invoke, builtin, hs, hx, hrun, Result.andThen]
  exact hK v' w' r1 r2
theorem step_info : (Try.prog.info? 95).map (fun i => (i.zero, i.size, i.bytes)) = some (some (.agg #[.int .i64 0, .int .i64 0, .bool false, .int .i64 0]), 4, 32) := by kernel_rfl
theorem Keeps.grown {c : PC} {w w' : World} {lv : Value} {n : Nat} {xs : List Value} (ho : w.ownsRow c.base 95 4 lv n xs) (hg : w.grownBy w' lv.ownBlock) : Keeps c w w' :=
  ⟨hg.os, hg.tape, hg.output, hg.size, fun k h1 _ _ h4 => hg.block k h1 fun e => by
    rcases ho.2 with ⟨rfl, _⟩ | ⟨g, cap, cur, rfl, hb, hgg, _⟩
    · cases e
    · simp only [Value.ownBlock, Option.some.injEq] at e
      subst e
      rcases h4 with h4 | h4
      · omega
      · exact h4 cur (0, 0) hgg⟩
theorem Keeps.ofMap {c : PC} {w w' : World} (hg : w.grownBy w' (some c.M)) : Keeps c w w' := ⟨hg.os, hg.tape, hg.output, hg.size, fun k h1 _ h3 _ => hg.block k h1 fun e => h3.1 (by injection e)⟩

theorem new_cells (w : World) (t : TypeId) (cs : List Value) : ∀ (j : Nat) (u : Value), cs[j]? = some u → (w.alloc (.cells cs.toArray t)).cell? ((⟨w.heap.size, 0, none⟩ : Addr).add j) = some u := by
  intro j u h
  have hb : Blk (w.alloc (.cells cs.toArray t)) w.heap.size t cs.toArray := blk_at rfl
  have h1 : (⟨w.heap.size, 0, none⟩ : Addr).add j = ⟨w.heap.size, j, none⟩ := by
    cases j with
    | zero => rfl
    | succ j => simp [Addr.add]
  rw [h1, hb.cell j]
  simpa using h
theorem Par.far {c : PC} {w : World} {σ : PS} (h : Par c w σ) (hok : c.Ok) {k : Nat} {T : TypeId} {cs : Array Value} (hb : Blk w k T cs) (hT : T ≠ 95) (h1 : k ≠ c.P) (h2 : k ≠ c.M ∧ k ≠ c.ob) (h3 : c.base ≤ k) (j : Nat) (u : Value) : Par c (w.setCell ⟨k, j, none⟩ u) σ := by
  obtain ⟨⟨lv, a1, a2⟩, a3, a4, a5, a6, a7, a8⟩ := h
  have hg : w.grownBy (w.setCell ⟨k, j, none⟩ u) (some k) := ⟨rfl, rfl, rfl, by simp [World.setCell], fun q hq hne => Below.heap_setCell w ⟨k, j, none⟩ u q (by rintro rfl; exact hne rfl)⟩
  have hne : lv.ownBlock ≠ some k := fun e => by
    rcases a2.2 with ⟨rfl, _⟩ | ⟨g, cap, cur, rfl, hb', hgg, _⟩
    · cases e
    · simp only [Value.ownBlock, Option.some.injEq] at e
      subst e
      have hb2 : w.heap[g]? = some (.cells cs T (0, 0)) := hb
      rw [hgg] at hb2
      injection hb2 with hb2
      injection hb2 with e1 e2 e3
      exact hT e2.symm
  exact ⟨⟨lv, a1.grown hg (fun e => h1 (by injection e with e; exact e.symm)), a2.kept hg (.inr hne)⟩, a3.kept hg (fun e => h2.1 (by injection e with e; exact e.symm)), fun i x hi => (World.cell?_of_block (Below.heap_setCell w ⟨k, j, none⟩ u _ (by have := hok.F; simp; omega))).trans (a4 i x hi), by simpa [World.setCell] using a5, a6.on ((Below.refl _ _).setCell (by have := hok.Bb; simp; omega) _), a7, a8.keep fun q hh _ hq => Below.heap_setCell w ⟨k, j, none⟩ u q (by have := hok.bx hh; have := hok.M; show q ≠ k; omega)⟩
theorem Keeps.far {c : PC} {w W : World} (h : Keeps c w W) {k : Nat} (hk : w.heap.size ≤ k) (j : Nat) (u : Value) : Keeps c w (W.setCell ⟨k, j, none⟩ u) :=
  ⟨h.os, h.tape, h.output, by simpa [World.setCell] using h.size, fun q h1 h2 h3 h4 => (Below.heap_setCell W ⟨k, j, none⟩ u q (by simp; omega)).trans (h.blk q h1 h2 h3 h4)⟩
theorem grown_past {w w' : World} {o : Obj} {r : Option Nat} (h : (w.alloc o).drew.grownBy w' r) : w.grownBy w' r :=
  ⟨h.os, h.tape, h.output, Nat.le_trans (by simp) h.size, fun k hk hne => (h.block k (by simp; omega) hne).trans (Below.heap_alloc w o k hk)⟩
theorem outC_V (o : Option Nat) : outV o = .agg (outC o).toArray := by cases o <;> rfl
theorem recall_none {l : List ((Nat × Nat) × Option Nat)} {k : Nat × Nat} (h : recall l k = none) : k ∉ l.map (·.1) := by
  intro hk
  obtain ⟨x, hx, rfl⟩ := List.mem_map.1 hk
  unfold recall at h
  rw [Option.map_eq_none_iff, List.find?_eq_none] at h
  exact h x hx (by simp)
/-- what a call of Rule leaves -/
def RuleQ (c : PC) (p : Nat) (w : World) (r : Option Nat × PS) (e : Ending) (w' : World) : Prop := (∃ o, e = .returned (outV o) ∧ r.1 = o.map (p + ·)) ∧ Par c w' r.2 ∧ Keeps c w w'
def DoesRule (c : PC) (m : Nat) : Prop := ∀ (i p : Nat) (σ : PS) (r : Option Nat × PS) (w : World), pk c.g c.s.data.toList c.hk m (.rule i) p σ = some r → i < c.g.length → p ≤ c.s.data.toList.length → Bound c.s.data.toList.length σ → Par c w σ →
  Calls Try.prog 21 #[.pointer (some ⟨c.P, 0, none⟩), .int .i64 i, .int .i64 p] w (RuleQ c p w r)
/-- where the walk of Rule stands -/
structure RuleC (c : PC) (w : World) (σ : PS) (i p : Nat) (W : World) : Prop where
  par : Par c W σ
  keeps : Keeps c w W
  res : Blk W w.heap.size 48 #[.bool false, .int .i64 0]
  key : Blk W (w.heap.size + 1) 90 #[.int .i64 i, .int .i64 p]
theorem RuleC.drew {c : PC} {w W : World} {σ : PS} {i p : Nat} (h : RuleC c w σ i p W) : RuleC c w σ i p W.drew := ⟨h.par.drew, h.keeps.drew, h.res.drew, h.key.drew⟩

theorem RuleC.past {c : PC} {w W W' : World} {σ σ' : PS} {i p : Nat} (h : RuleC c w σ i p W) (hok : c.Ok) (hw : c.base ≤ w.heap.size) (hp : Par c W' σ') (hk : Keeps c W W') : RuleC c w σ' i p W' :=
  ⟨hp, h.keeps.trans hk, hk.box h.res (by decide) (by have := hok.P; omega) (by have := hok.M; omega), hk.box h.key (by decide) (by have := hok.P; omega) (by have := hok.M; omega)⟩

set_option maxRecDepth 100000 in
set_option maxHeartbeats 8000000 in
theorem rule_hit {c : PC} (hok : c.Ok) (i p : Nat) (hi : i ≤ big) (hp : p ≤ big) {σ : PS} (o : Option Nat) (ho : recall σ.seen (i, p) = some o) (w : World) (h : Par c w σ) :
    Calls Try.prog 21 #[.pointer (some ⟨c.P, 0, none⟩), .int .i64 i, .int .i64 p] w (fun e w' => e = .returned (outV o) ∧ Par c w' σ ∧ Keeps c w w') := by
  have hsz := h.size
  have hbP := hok.P
  have hPl : c.P < w.heap.size := by omega
  have h3 : Par c (((w.alloc (.cells #[.bool false, .int .i64 0] 48)).alloc (.cells #[.int .i64 i, .int .i64 p] 90)).alloc (.cells #[.bool false, .int .i64 0] 48)).drew σ := (((h.alloc hok _).alloc hok _).alloc hok _).drew
  have h2 : Par c ((w.alloc (.cells #[.bool false, .int .i64 0] 48)).alloc (.cells #[.int .i64 i, .int .i64 p] 90)).drew σ := ((h.alloc hok _).alloc hok _).drew
  have s2 := h3.c2
  have s2' := h2.c2
  have s20 := h.c2
  have hlk := h3.memo.look hi hp
  have hlk2 := h2.memo.look hi hp
  rw [ho] at hlk hlk2
  obtain ⟨b, n, hbn⟩ : ∃ (b : Bool) (n : Int), outV o = .agg #[.bool b, .int .i64 n] := by cases o <;> exact ⟨_, _, rfl⟩
  simp only [Option.getD_some, Option.isSome_some, hbn] at hlk hlk2
  rw [hbn]
  have hfin : ∀ O3 : Obj, Par c (((w.alloc (.cells #[.bool b, .int .i64 n] 48)).alloc (.cells #[.int .i64 i, .int .i64 p] 90)).alloc O3).drew σ := fun O3 => (((h.alloc hok _).alloc hok _).alloc hok _).drew
  have hfk : ∀ O3 : Obj, Keeps c w (((w.alloc (.cells #[.bool b, .int .i64 n] 48)).alloc (.cells #[.int .i64 i, .int .i64 p] 90)).alloc O3).drew := fun O3 => ((((Keeps.refl c w).alloc _).alloc _).alloc _).drew
  have HF := Lib.hid hfin
  have HK := Lib.hid hfk
  clear hfin hfk h ho hbn
  go_enter Try.func21, Try.ntmps21
  go_wp2_with fail
  go_region
  all_goals
    go_wp2
    exact bodyPost_ret (v := .agg #[.bool b, .int .i64 n]) (by simp [results, Try.results21, go_sem]) rfl ⟨rfl, HF.out _, HK.out _⟩

set_option maxRecDepth 100000 in
set_option maxHeartbeats 8000000 in
theorem rule_new {c : PC} (hok : c.Ok) (i p z : Nat) (hi : i < c.g.length) (hg : c.g.length ≤ 1000) (hp : p ≤ c.s.data.toList.length) (hl : c.s.data.toList.length ≤ 1000) {σ σ1 : PS} (o : Option Nat) (ho : recall σ.seen (i, p) = none) (ho1 : recall σ1.seen (i, p) = none)
    (hz : ∀ q, o = some q → z = q ∧ p ≤ q) (hzl : z ≤ 1000)
    (hcall : ∀ (r : Rl) (cs : List Value) (W : World), c.g[i]? = some r → ExIs W c.B r.2 cs → Par c W σ → Calls Try.prog 35 #[.pointer (some ⟨c.P, 0, none⟩), .agg cs.toArray, .int .i64 (firstN c.g i : Nat), .int .i64 p] W (Went c W (o, σ1)))
    (w : World) (h : Par c w σ) :
    Calls Try.prog 21 #[.pointer (some ⟨c.P, 0, none⟩), .int .i64 i, .int .i64 p] w (fun e w' => e = .returned (outV (o.map (· - p))) ∧
      Par c w' { σ1 with seen := σ1.seen ++ [((i, p), o.map (· - p))], log := σ1.log ++ [(i, p, o.map (· - p))] } ∧ Keeps c w w') := by
  have hsz := h.size
  have hbP := hok.P
  have hPl : c.P < w.heap.size := by omega
  have hlen := hok.len
  have hfst := hok.fst i hi
  have hib : i ≤ big := by unfold big; omega
  have hpb : p ≤ big := by unfold big; omega
  have h3 : Par c (((w.alloc (.cells #[.bool false, .int .i64 0] 48)).alloc (.cells #[.int .i64 i, .int .i64 p] 90)).alloc (.cells #[.bool false, .int .i64 0] 48)).drew σ := (((h.alloc hok _).alloc hok _).alloc hok _).drew
  have k3 : Keeps c w (((w.alloc (.cells #[.bool false, .int .i64 0] 48)).alloc (.cells #[.int .i64 i, .int .i64 p] 90)).alloc (.cells #[.bool false, .int .i64 0] 48)).drew := ((((Keeps.refl c w).alloc _).alloc _).alloc _).drew
  have h2 : Par c ((w.alloc (.cells #[.bool false, .int .i64 0] 48)).alloc (.cells #[.int .i64 i, .int .i64 p] 90)).drew σ := ((h.alloc hok _).alloc hok _).drew
  have s2 := h3.c2
  have s2' := h2.c2
  have s20 := h.c2
  have hlk := h3.memo.look hib hpb
  have hlk2 := h2.memo.look hib hpb
  rw [ho] at hlk hlk2
  have hov : outV none = .agg #[.bool false, .int .i64 0] := rfl
  simp only [Option.getD_none, Option.isSome_none, hov] at hlk hlk2
  have hC3 : RuleC c w σ i p (((w.alloc (.cells #[.bool false, .int .i64 0] 48)).alloc (.cells #[.int .i64 i, .int .i64 p] 90)).alloc (.cells #[.bool false, .int .i64 0] 48)).drew :=
    ⟨h3, k3, (((blk_at rfl).alloc _).alloc _).drew, ((blk_at (by simp)).alloc _).drew⟩
  have HC3 := Lib.hid hC3
  have HCALL := Lib.hid hcall
  have HO1 := Lib.hid ho1
  have HZ := Lib.hid hz
  clear hC3 k3 h ho hov hcall ho1 hz
  go_enter Try.func21, Try.ntmps21
  go_upto_region 2 with fail
  go_cut [8, 9] (fun s8 s9 wx => s8 = .pointer (some ⟨w.heap.size + 1 + 1, 0, none⟩) ∧ s9 = .bool false ∧ RuleC c w σ i p wx)
  case first =>
    go_region
    all_goals (go_wp2_with fail; go_meet; exact ⟨rfl, rfl, HC3.out⟩)
  case rest =>
  obtain ⟨rfl, rfl, hC⟩ := hcut
  clear s2 s2' s20 hlk hlk2 h3 h2 HC3
  obtain ⟨ad, nm, k', a', b', c', d', t', ks', A', cp', hA, hab, hej, hnm, hE, ⟨e0, e1, e2, e3, e4, e5, e6, e7⟩⟩ := hC.par.gram.rule hi
  have s0 := hC.par.c0
  rw [hA, hlen] at s0
  have s10 := hC.par.c10
  rw [hlen] at s10
  have sf := hC.par.first i _ hfst
  have hcl := HCALL.out _ _ wc.drew hej (hE.on ((Below.refl _ _).drew)) hC.par.drew
  unfold exCells at hcl
  have HCL := Lib.hid hcl
  have hi1 : (i : Int) < (c.g.length : Int) := by omega
  have hi0 : (0 : Int) ≤ (i : Int) := by omega
  have hkc := hC.keeps
  have hrs := hC.res
  have hky := hC.key
  have hzw := hC.keeps.size
  have hbM := hok.M
  have HW := Lib.hid hC
  clear hC hcl hE hej HCALL
  go_upto_region 5 with fail
  go_cut [10, 11] (fun s10 s11 wx => ∃ zz : Int, s10 = .int .i64 zz ∧ s11 = .bool o.isSome ∧ (o.isSome = true → zz = z) ∧ RuleC c w σ1 i p wx)
  case first =>
    go_region_with (go_at_call 35; refine HCL.out.mono ?_; rintro e w2 ⟨⟨zz, rfl, hzz⟩, q1, q2⟩)
    all_goals (go_wp2_with fail; go_meet)
    all_goals exact ⟨zz, rfl, rfl, fun hs => (by
      obtain ⟨q, hq⟩ := Option.isSome_iff_exists.1 hs
      rw [hzz q hq, (HZ.out q hq).1]), HW.out.past hok hsz q1 ((Keeps.refl c wc).drew.trans q2)⟩
  case rest =>
  obtain ⟨zz, rfl, rfl, hzz, hC⟩ := hcut
  clear e0 e1 e2 e3 e4 e5 e6 e7 s0 s10 sf HCL HW hkc hrs hky hzw
  have hzw := hC.keeps.size
  obtain ⟨N, hN⟩ : ∃ N : Int, N = ((o.map (· - p)).getD 0 : Nat) := ⟨_, rfl⟩
  have hNb : 0 ≤ N ∧ N ≤ 1000 := by
    rw [hN]
    cases o with
    | none => exact ⟨by simp, by simp⟩
    | some q => have := HZ.out q rfl; simp; omega
  have hsub : o.isSome = true → zz - (p : Int) = N := fun hs => by
    obtain ⟨q, hq⟩ := Option.isSome_iff_exists.1 hs
    have h1 := HZ.out q hq
    rw [hN, hq, hzz hs, Option.map_some, Option.getD_some]
    omega
  have HO : Hid (outV (o.map (· - p)) = .agg #[.bool o.isSome, .int .i64 N]) := by
    show _ = _
    rw [hN]
    cases o <;> rfl
  have hno : o.isSome = false → N = 0 := fun hs => by
    rw [hN]
    cases o with
    | none => rfl
    | some q => cases hs
  clear hN hzz HZ
  generalize hob : o.isSome = ob at hsub HO hno
  clear hob
  obtain ⟨bo, hbo⟩ : ∃ bo : Nat, bo = wc.heap.size := ⟨_, rfl⟩
  have HBO := Lib.hid hbo
  have hbo1 : w.heap.size + 1 < bo := by have := hC.key.lt; omega
  clear hbo
  go_upto_if 51 with fail
  go_cut [] (fun wx => RuleC c w σ1 i p wx ∧ Blk wx wc.heap.size 48 #[.bool ob, .int .i64 N] ∧ wc.heap.size < wx.heap.size)
  case first =>
    have hq0 := hC.past hok hsz (hC.par.alloc hok (.cells #[.bool ob, .int .i64 N] 48)) ((Keeps.refl c wc).alloc _)
    cases ob with
    | true =>
      have hs : (zz - (p : Int)) = N := hsub rfl
      have hwr : IntKind.i64.wrap (zz - (p : Int)) = N := by rw [hs]; exact wrap_i64 _ (by omega) (by omega)
      go_wp2_with fail
      go_meet
      exact ⟨hq0, blk_at rfl, by simp⟩
    | false =>
      obtain rfl := hno rfl
      go_wp2_with fail
      go_meet
      exact ⟨hq0, blk_at rfl, by simp⟩
  case rest =>
  clear hsub hno hC hzw
  obtain ⟨hC1, hbx, hlt⟩ := hcut
  rw [← HBO.out] at hbx hlt ⊢
  clear HBO
  have hbP1 : bo ≠ c.P := by omega
  have hbM1 : bo ≠ c.M := by omega
  obtain ⟨i0, hi0', hi1'⟩ := Option.map_eq_some_iff.1 step_info
  simp only [Prod.mk.injEq] at hi1'
  obtain ⟨hz0, hz1, hz2⟩ := hi1'
  go_wp2_with fail
  refine wp_region_t (fun W => RuleC c w σ1 i p W ∧ Blk W bo 48 #[.bool ob, .int .i64 N]) 6 (by kernel_rfl) (by kernel_rfl) ⟨hC1.drew, hbx.drew⟩ ?_
  simp only [List.take_succ_cons, List.take_zero]
  repeat
    (first | ((with_reducible apply QW.free rfl); · (intro W hW; obtain ⟨q1, q2⟩ := hW; have s2 := q1.par.c2; have t0 := q1.key.cell 0; have t1 := q1.key.cell 1; have r0 := q2.cell 0; have r1 := q2.cell 1; go_simp; first | rfl)) | ((with_reducible apply QW.skip rfl); · (first | exact ⟨_, _, rfl, rfl, .inl rfl⟩ | exact ⟨_, _, rfl, rfl, .inr rfl⟩)) | ((with_reducible apply QW.take rfl); (· exact ⟨_, rfl, rfl⟩); (· (intro W hW; obtain ⟨q1, q2⟩ := hW; have s2 := q1.par.c2; have t0 := q1.key.cell 0; have t1 := q1.key.cell 1; have r0 := q2.cell 0; have r1 := q2.cell 1; go_simp; first | rfl)))); (try simp only [Act.put, List.setIfInBounds_toArray, List.set_cons_zero, List.set_cons_succ])
  refine QW.nil ?_
  rintro w2 ⟨hC2, hbx2⟩
  have htl := hC2.par.tight.len
  have hmul : c.g.length * (c.s.data.toList.length + 1) ≤ 1000 * 1001 := Nat.mul_le_mul hg (by omega)
  have hll := hC2.par.tight.log_len
  obtain ⟨w3, hrun, hmem, hgr⟩ := hC2.par.memo.put (by unfold maxLen; omega) hib hpb HO1.out (o.map (· - p))
  rw [HO.out] at hrun
  obtain ⟨lv, hP, hlog⟩ := hC2.par.par
  have hP3 := hP.grown hgr (fun e => hok.ne3.1 (by injection e with e; exact e.symm))
  have hlog3 := hlog.kept hgr (by
    cases hv : lv.ownBlock with
    | none => exact .inl rfl
    | some k => exact .inr (fun e => by injection e with e; have := (hlog.lt k hv).1; omega))
  have hres3 := hC2.res.grown hgr (by simp; omega)
  have hbx3 := hbx2.grown hgr (by simp; exact hbM1)
  have hk3 : Keeps c w w3 := hC2.keeps.trans (Keeps.ofMap hgr)
  have hf3 : ∀ j x, c.firsts[j]? = some x → w3.cell? ⟨c.F, j, none⟩ = some (.int .i64 (x : Nat)) := fun j x hj => by
    rw [← hC2.par.first j x hj]
    exact World.cell?_of_block (hgr.block _ (by have := hok.F; have := hC2.par.size; simp; omega) (fun e => hok.ne2.1 (by injection e)))
  have hg3 := hC2.par.gram.on (⟨hgr.os, hgr.tape, hgr.output, hgr.size, fun k hk => hgr.block k (by have := hok.Bb; have := hC2.par.size; omega) (fun e => by injection e with e; have := hok.BM; omega)⟩ : Below c.B w2 w3)
  have hlb : σ1.log.length ≤ 1001000 := by omega
  have hnb : ∀ k, k < c.base → some k ≠ lv.ownBlock := fun k hk e => by have := (hlog.lt k e.symm).1; omega
  have hsz3 : c.base ≤ w3.heap.size := Nat.le_trans hC2.par.size hgr.size
  have htight := hC2.par.tight
  have hmk3 : MkOk c w3 σ1.marks := hC2.par.marks.keep fun k hh hk he => hgr.block k hk (fun e => by injection e with e; have := hok.bx hh; omega)
  have hlt3 : bo < w3.heap.size := hbx3.lt
  have hP3l : c.P < w3.heap.size := hP3.lt
  have hR3l : w.heap.size < w3.heap.size := hres3.lt
  have hRP : w.heap.size ≠ c.P := by omega
  have s3 : w3.cell? ⟨c.P, 3, none⟩ = some lv := hP3.cell 3
  have f3 : w3.frozen? ⟨c.P, 3, none⟩ = false := hP3.frozen 3
  have t0 : w3.cell? ⟨bo, 0, none⟩ = some (.bool ob) := hbx3.cell 0
  have t1 : w3.cell? ⟨bo, 1, none⟩ = some (.int .i64 N) := hbx3.cell 1
  have HM := Lib.hid hmem
  have HL := Lib.hid hlog3
  have HP3 := Lib.hid hP3
  have HR3 := Lib.hid hres3
  have HB3 := Lib.hid hbx3
  have HK3 := Lib.hid hk3
  have HF3 := Lib.hid hf3
  have HG3 := Lib.hid hg3
  have HT := Lib.hid htight
  have HMK := Lib.hid hmk3
  clear hll hC1 hbx hlt hC2 hbx2 hmem hlog hlog3 hP hP3 hres3 hbx3 hk3 hf3 hg3 htight hmk3 htl hgr
  simp only [List.drop]
  go_upto_region 10 with fail
  clear hrun
  go_cut [] (fun wx => Par c wx { σ1 with seen := σ1.seen ++ [((i, p), o.map (· - p))], log := σ1.log ++ [(i, p, o.map (· - p))] } ∧ Keeps c w wx ∧ Blk wx w.heap.size 48 #[.bool false, .int .i64 0] ∧ Blk wx bo 48 #[.bool ob, .int .i64 N])
  case first =>
    go_region_law (refine step_append_own rfl (.tmp 66) (.tmp 71) 81 rfl c.base 95 i0 _ 4 32 Try.underlying81 hi0' hz0 hz1 hz2 rfl (by decide) lv σ1.log.length _ (by simp [Act.eval]) (HL.out.alloc _) ⟨w3.heap.size, 0, none⟩ 1 1 [.int .i64 i, .int .i64 p, .bool ob, .int .i64 N] (by simp [Act.eval]) rfl (new_cells _ _ _) (by simp [Value.oneCell']) (by unfold maxLen; omega) (by omega) (by simp; omega) ?_; intro v' w4 hown4 hgr4; obtain ⟨gg, cap', rfl⟩ := Joins.ownsRow_form hown4 (by omega); have hP4 := HP3.out.grown (grown_past hgr4) (hnb _ hbP); have s4 : w4.cell? ⟨c.P, 3, none⟩ = some lv := hP4.cell 3; have f4 := hP4.frozen 3)
    all_goals
      have hK4 : Keeps c (w3.alloc (.cells #[.int .i64 i, .int .i64 p, .bool ob, .int .i64 N] 95)).drew w4 := Keeps.grown (HL.out.alloc _) hgr4
      have hR4 := hK4.box (HR3.out.alloc _).drew (by decide) (by omega) (by omega)
      have hB4 := hK4.box (HB3.out.alloc _).drew (by decide) (by omega) (by omega)
      have hK5 : Keeps c w w4 := HK3.out.trans (((Keeps.refl c w3).alloc _).drew.trans hK4)
      have hG4 : w3.grownBy w4 lv.ownBlock := grown_past hgr4
      have hgp : w4.grownBy (w4.setCell ⟨c.P, 3, none⟩ (.slice (some ⟨gg, 0, none⟩) (σ1.log.length + 1) cap')) (some c.P) := ⟨rfl, rfl, rfl, by simp [World.setCell], fun q hq hne => Below.heap_setCell w4 ⟨c.P, 3, none⟩ _ q (by rintro rfl; exact hne rfl)⟩
      have hst : (σ1.log ++ [(i, p, o.map (· - p))]).flatMap stepC = σ1.log.flatMap stepC ++ [.int .i64 i, .int .i64 p, .bool ob, .int .i64 N] := by
        have h1 := HO.out
        rw [outC_V] at h1
        injection h1 with h1
        have h2 : outC (o.map (· - p)) = [.bool ob, .int .i64 N] := by have := congrArg Array.toList h1; simpa using this
        rw [List.flatMap_append, List.flatMap_cons, List.flatMap_nil, List.append_nil, stepC]
        simp only [h2]
      go_wp2_with fail
      go_meet
      refine ⟨⟨⟨.slice (some ⟨gg, 0, none⟩) (σ1.log.length + 1) cap', hP4.set_ 3 _, ?_⟩, ?_, fun j x hj => ?_, ?_, ?_, ?_, ?_⟩, ?_, hR4.far (by simp; omega) _, hB4.far (by simp; omega) _⟩
      · show World.ownsRow _ c.base 95 4 _ (σ1.log ++ [(i, p, o.map (· - p))]).length ((σ1.log ++ [(i, p, o.map (· - p))]).flatMap stepC)
        rw [hst, List.length_append]
        exact hown4.kept hgp (.inr (fun e => by have := (hown4.lt gg rfl).1; simp only [Value.ownBlock, Option.some.injEq] at e; omega))
      · exact (HM.out.kept hG4 (hnb _ hbM.1)).kept hgp (fun e => hok.ne3.1 (by injection e))
      · rw [← HF3.out j x hj]
        exact (World.cell?_of_block (hgp.block _ (by have := hok.F; have := hG4.size; simp; omega) (fun e => hok.ne1 (by injection e)))).trans (World.cell?_of_block (hG4.block _ (by have := hok.F; simp; omega) (hnb _ hok.F)))
      · have := hG4.size
        have := hgp.size
        omega
      · exact (HG3.out.on (⟨hG4.os, hG4.tape, hG4.output, hG4.size, fun k hk => hG4.block k (by have := hok.Bb; omega) (hnb k (by have := hok.Bb; omega))⟩ : Below c.B w3 w4)).on ((Below.refl _ _).setCell hok.BP _)
      · exact ⟨by
          simp only [List.map_append, List.map_cons, List.map_nil]
          rw [List.nodup_append]
          refine ⟨HT.out.nodup, by simp, ?_⟩
          intro a ha b hb hab
          simp only [List.mem_singleton] at hb
          subst hab
          subst hb
          exact recall_none HO1.out ha, by
          intro k hk
          simp only [List.map_append, List.map_cons, List.map_nil, List.mem_append, List.mem_singleton] at hk
          rcases hk with hk | rfl
          · exact HT.out.inn k hk
          · exact ⟨hi, hp⟩, by simp [HT.out.log]⟩
      · exact HMK.out.keep fun k hh hk he => (hgp.block k (by have := hG4.size; omega) (fun e => by injection e with e; have := hok.bx hh; have := hok.ne3; omega)).trans (hG4.block k hk (hnb k (by have := hok.bx hh; omega)))
      · exact hK5.trans ⟨rfl, rfl, rfl, by simp [World.setCell], fun k _ hk _ _ => Below.heap_setCell w4 ⟨c.P, 3, none⟩ _ k hk⟩
  case rest =>
  obtain ⟨hq1, hq2, hq3, hq4⟩ := hcut
  have yz0 : wc.cell? ⟨w.heap.size, 0, none⟩ = some (.bool false) := hq3.cell 0; have yz1 : wc.cell? ⟨w.heap.size, 1, none⟩ = some (.int .i64 0) := hq3.cell 1; have yf0 := hq3.frozen 0; have yf1 := hq3.frozen 1; have ye0 : (wc.setCell ⟨w.heap.size, 0, none⟩ (.bool ob)).cell? ⟨w.heap.size, 0, none⟩ = some (.bool ob) := (hq3.set_ 0 _).cell 0; have ye1 : ((wc.setCell ⟨w.heap.size, 0, none⟩ (.bool ob)).setCell ⟨w.heap.size, 1, none⟩ (.int .i64 N)).cell? ⟨w.heap.size, 1, none⟩ = some (.int .i64 N) := ((hq3.set_ 0 _).set_ 1 _).cell 1
  have t0 : wc.cell? ⟨bo, 0, none⟩ = some (.bool ob) := hq4.cell 0
  have t1 : wc.cell? ⟨bo, 1, none⟩ = some (.int .i64 N) := hq4.cell 1
  have hne5 : w.heap.size ≠ c.M ∧ w.heap.size ≠ c.ob := by omega
  have hA1 := hq1.far hok hq3 (by decide) hRP hne5 (by omega) 0 (.bool ob)
  have hA2 := hA1.far hok (hq3.set_ 0 (.bool ob)) (by decide) hRP hne5 (by omega) 1 (.int .i64 N)
  have hA3 := (hq2.far (Nat.le_refl _) 0 (.bool ob)).far (Nat.le_refl _) 1 (.int .i64 N)
  have HA2 := Lib.hid hA2
  have HA3 := Lib.hid hA3
  clear hq1 hq2 hA1 hA2 hA3 HM HL HP3 HR3 HB3 HK3 HF3 HG3 HT
  go_wp2
  exact bodyPost_ret (v := .agg #[.bool ob, .int .i64 N]) (by simp [results, Try.results21, go_sem, ye0, ye1]) rfl ⟨by rw [HO.out], HA2.out, HA3.out⟩
end Go.Proofs.Ytndhbdbfjkmloaa
namespace Go.Proofs.Ytndhbdbfjkmloaa
open Go.RowKit Go.Maps

set_option maxRecDepth 100000 in
set_option maxHeartbeats 8000000 in
theorem node_ref {c : PC} (hok : c.Ok) {σ : PS} (a b d1 d2 : Int) (t : ByteArray) (A : Option Addr) (n cp num p : Nat) (hp : p ≤ 1000) (r : Option Nat × PS) (hrl : ∀ q, r.1 = some q → q ≤ 1000) (w : World) (h : Par c w σ)
    (hrule : ∀ W, Par c W σ → Calls Try.prog 21 #[.pointer (some ⟨c.P, 0, none⟩), .int .i64 (fnd c.g t.data.toList), .int .i64 p] W (RuleQ c p W r)) :
    Calls Try.prog 50 #[.pointer (some ⟨c.P, 0, none⟩), .agg #[.int .i64 4, .int .u64 a, .int .u64 b, .int .u64 d1, .int .u64 d2, .string t, .slice A n cp], .int .i64 num, .int .i64 p] w (Went c w r) := by
  have hN := NodeC.start h hok #[.int .i64 4, .int .u64 a, .int .u64 b, .int .u64 d1, .int .u64 d2, .string t, .slice A n cp]
  have hsz := h.size
  have hbP := hok.P
  have hPl : c.P < w.heap.size := by omega
  have hbM := hok.M
  have s0 := h.c0
  rw [hok.len] at s0
  have hfd := fun W (hW : Below w.heap.size w W) => find_any ((h.below hok hW).gram.more (by have := hok.Bb; have := hW.size; omega)) t
  have hru := fun W (hW : Below w.heap.size w W) => hrule W (h.below hok hW)
  have HFD := Lib.hid hfd
  have HRU := Lib.hid hru
  clear hfd hru hrule
  go_enter Try.func50, Try.ntmps50
  go_upto_region 18 with fail
  go_cut [11] (fun s11 wx => ∃ (bo : Nat) (o : Option Nat) (N : Int), s11 = .pointer (some ⟨bo, 0, none⟩) ∧ r.1 = o.map (p + ·) ∧ outV o = .agg #[.bool o.isSome, .int .i64 N] ∧ Blk wx bo 48 #[.bool o.isSome, .int .i64 N] ∧ Par c wx r.2 ∧ Keeps c w wx)
  case first =>
    go_region_with (first | (go_at_call 51; refine (HFD.out _ (by repeat (first | exact Below.refl _ _ | assumption | refine Below.drew ?_ | refine below_drewN ?_ _ | refine Below.alloc ?_ (by first | omega | (simp; omega) | simp) _ | refine Below.setCell ?_ (by first | omega | (simp; omega) | simp) _))).mono ?_; rintro e w1 ⟨rfl, hb1⟩; have hw1 : Below w.heap.size w w1 := Below.trans (by repeat (first | exact Below.refl _ _ | assumption | refine Below.drew ?_ | refine below_drewN ?_ _ | refine Below.alloc ?_ (by first | omega | (simp; omega) | simp) _ | refine Below.setCell ?_ (by first | omega | (simp; omega) | simp) _)) (hb1.mono (by first | omega | (simp; omega) | simp)); have hz1 := hw1.size; (first | (have hbA : Blk w1 (w.heap.size + 1) 48 #[.bool false, .int .i64 0] := Blk.below (by first | exact blk_at rfl | exact blk_at (by simp)) hb1 (by simp)) | skip)) | (go_at_call 21; refine (HRU.out _ (by repeat (first | exact Below.refl _ _ | assumption | refine Below.drew ?_ | refine below_drewN ?_ _ | refine Below.alloc ?_ (by first | omega | (simp; omega) | simp) _ | refine Below.setCell ?_ (by first | omega | (simp; omega) | simp) _))).mono ?_; rintro e w2 ⟨⟨o, rfl, ho⟩, q1, q2⟩; obtain ⟨N, hN⟩ : ∃ N : Int, outV o = .agg #[.bool o.isSome, .int .i64 N] := (by cases o <;> exact ⟨_, rfl⟩); rw [hN]; (first | (have hbx := q2.box hbA (by decide) (by omega) (by omega); have z0 : w2.cell? ⟨w.heap.size + 1, 0, none⟩ = some (.bool false) := hbx.cell 0; have z1 : w2.cell? ⟨w.heap.size + 1, 1, none⟩ = some (.int .i64 0) := hbx.cell 1; have f0 := hbx.frozen 0; have f1 := hbx.frozen 1) | (have hbx : Blk w2 w1.heap.size 48 #[.bool false, .int .i64 0] := q2.box (blk_at rfl) (by decide) (by omega) (by omega); have z0 : w2.cell? ⟨w1.heap.size, 0, none⟩ = some (.bool false) := hbx.cell 0; have z1 : w2.cell? ⟨w1.heap.size, 1, none⟩ = some (.int .i64 0) := hbx.cell 1; have f0 := hbx.frozen 0; have f1 := hbx.frozen 1) | skip)))
    all_goals (go_wp2_with fail; go_meet)
    all_goals
      have hK : Keeps c w w2 := by first | exact (Keeps.of_below hw1).trans q2 | exact ((Keeps.of_below hw1).alloc _).trans q2
      first
        | exact ⟨_, o, N, rfl, ho, hN, (hbx.set_ 0 _).set_ 1 _, (q1.far hok hbx (by decide) (by omega) (by omega) (by omega) 0 _).far hok (hbx.set_ 0 _) (by decide) (by omega) (by omega) (by omega) 1 _, (hK.far (by omega) 0 _).far (by omega) 1 _⟩
        | exact ⟨_, o, N, rfl, ho, hN, blk_at rfl, q1.alloc hok _, hK.alloc _⟩
  case rest =>
  obtain ⟨bo, o, N, rfl, ho, hN, hbx, q1, q2⟩ := hcut
  have hNn : (∃ k : Nat, o = some k ∧ N = k) ∨ (o = none ∧ N = 0) := by
    cases o with
    | none => exact .inr ⟨rfl, by simp [outV] at hN; exact hN.symm⟩
    | some k => exact .inl ⟨k, rfl, by simp [outV] at hN; exact hN.symm⟩
  have hwr : IntKind.i64.wrap ((p : Int) + N) = (p : Int) + N := by
    rcases hNn with ⟨k, rfl, rfl⟩ | ⟨rfl, rfl⟩
    · have := hrl (p + k) (by rw [ho]; rfl)
      exact wrap_i64 _ (by omega) (by omega)
    · exact wrap_i64 _ (by omega) (by omega)
  have HQ : Hid (Ret r.1 (.returned (.tuple #[.int .i64 ((p : Int) + N), .bool o.isSome]))) := by
    refine ⟨(p : Int) + N, ?_, fun q hq => ?_⟩
    · rw [ho, Option.isSome_map]
    · rcases hNn with ⟨k, rfl, rfl⟩ | ⟨rfl, rfl⟩
      · rw [ho, Option.map_some, Option.some.injEq] at hq
        omega
      · rw [ho] at hq; cases hq
  clear hN s0 hrl ho hNn HFD HRU h
  go_wp2_with fail
  refine wp_region_q (fun W => Par c W r.2 ∧ Keeps c w W ∧ Blk W bo 48 #[.bool o.isSome, .int .i64 N]) (by kernel_rfl) (by kernel_rfl) ⟨q1.drew, q2.drew, hbx.drew⟩ ?_
  repeat
    (first | ((with_reducible apply QW.free rfl); · (intro W hW; have t0 := hW.2.2.cell 0; have t1 := hW.2.2.cell 1; go_simp; first | rfl)) | ((with_reducible apply QW.skip rfl); · (first | exact ⟨_, _, rfl, rfl, .inl rfl⟩ | exact ⟨_, _, rfl, rfl, .inr rfl⟩)) | ((with_reducible apply QW.take rfl); (· exact ⟨_, rfl, rfl⟩); (· (intro W hW; have t0 := hW.2.2.cell 0; have t1 := hW.2.2.cell 1; go_simp; first | rfl)))); (try simp only [Act.put, List.setIfInBounds_toArray, List.set_cons_zero, List.set_cons_succ])
  refine QW.nil ?_
  rintro w3 ⟨p1, p2, p3⟩
  go_wp2
  go_ret2
  exact ⟨HQ.out, p1, p2⟩
end Go.Proofs.Ytndhbdbfjkmloaa
namespace Go.Proofs.Ytndhbdbfjkmloaa
open Go.RowKit Go.Maps

set_option maxRecDepth 100000 in
set_option maxHeartbeats 8000000 in
theorem node_alt {c : PC} (hok : c.Ok) {g : List Rl} {m : Nat} (hT : DoesTry c g m) (a b d1 d2 : Int) (t : ByteArray) (ks : List Ex) (num p : Nat) (σ : PS) (r : Option Nat × PS) (cs : List Value) (w : World)
    (hpk : pk g c.s.data.toList c.hk m (.alt ks (num + 1)) p σ = some r) (hE : ExIs w c.B (.mk 6 a b d1 d2 t ks) cs) (hR : ∀ e ∈ ks, RtW g e) (hnum : num + 1 + nodesAll ks ≤ c.lim) (hp : p ≤ c.s.data.toList.length) (hB : Bound c.s.data.toList.length σ) (h : Par c w σ) :
    Calls Try.prog 50 #[.pointer (some ⟨c.P, 0, none⟩), .agg cs.toArray, .int .i64 num, .int .i64 p] w (Went c w r) := by
  have hsz := h.size
  have hb1 := hok.Bb
  have hb2 := hok.BP
  have hb3 := hok.BM
  obtain ⟨ht, KA, kcp, rfl, hkc, hkm, _⟩ := hE.shape
  unfold exCells
  have hal : Below w.heap.size w (w.alloc (.cells #[.int .i64 6, .int .u64 a, .int .u64 b, .int .u64 d1, .int .u64 d2, .string t, .slice KA ks.length kcp] 27)) := (Below.refl _ _).alloc (Nat.le_refl _) _
  have hpar := h.below hok hal
  have hkp : Keeps c w (w.alloc (.cells #[.int .i64 6, .int .u64 a, .int .u64 b, .int .u64 d1, .int .u64 d2, .string t, .slice KA ks.length kcp] 27)) := Keeps.of_below hal
  have hm8 : ks.length ≤ 9223372036854775807 := by unfold maxLen at hkm; omega
  have hnum' : num + 1 + nodesAll ks ≤ c.lim := hnum
  have hlim := hok.lim
  have HE := Lib.hid hE
  have HT := Lib.hid hT
  have HPK := Lib.hid hpk
  have HRR := Lib.hid hR
  have HB := Lib.hid hB
  have HPP := Lib.hid hp
  clear hE hT hpk hR hB hnum hp
  go_enter Try.func50, Try.ntmps50
  go_wp2
  go_loopw [12, 141] (fun n i wr => ∃ j n' : Nat, ∃ σ' : PS, j ≤ ks.length ∧ i = .int .i64 j ∧ n = .int .i64 n' ∧ n' + nodesAll (ks.drop j) ≤ c.lim ∧ Hid (pk g c.s.data.toList c.hk m (.alt (ks.drop j) n') p σ' = some r) ∧ Hid (Bound c.s.data.toList.length σ') ∧ Par c wr σ' ∧ Keeps c w wr) (fun _ i _ => ks.length - (intOf i).toNat)
  case atStart => exact ⟨0, num + 1, σ, by omega, rfl, by go_num, hnum', HPK, HB, hpar, hkp⟩
  case round =>
    clear hpar hkp h
    obtain ⟨j, n, σ', hj, rfl, rfl, hn, HP, HB', hpar', hk'⟩ := hrel
    have hzr := hk'.size
    by_cases hjk : j < ks.length
    · have hbw : Below c.B w wr := hk'.below (by omega) hb2 hb3 hb1
      obtain ⟨ad, k', a', b', c', d', t', ks', A', cp', rfl, hab, hej, hE', ⟨e0, e1, e2, e3, e4, e5, e6⟩⟩ := (HE.out.on hbw).kid hjk
      have hpk' := HP.out
      rw [drop_of hej] at hpk' hn
      rw [nodesAll] at hn
      cases m with
      | zero => cases hpk'
      | succ m' =>
      simp only [pk] at hpk'
      cases he : pk g c.s.data.toList c.hk m' (.try_ (.mk k' a' b' c' d' t' ks') n) p σ' with
      | none => rw [he] at hpk'; cases hpk'
      | some r1 =>
      obtain ⟨o, σ1⟩ := r1
      rw [he] at hpk'
      have hbd := pk_bound _ _ _ _ _ _ _ _ _ he HPP.out HB'.out
      have hcall := fun W (hW : Below wr.heap.size wr W) => HT.out.le (Nat.le_succ m') _ n p σ' (o, σ1) _ W he (hE'.on (hW.mono (by omega))) (HRR.out _ (List.mem_of_getElem? hej)) (by omega) HPP.out HB'.out (hpar'.below hok hW)
      have hcn := fun W (hW : Below c.B wr W) => countK_any _ _ W ((hE'.on hW).keep (by have := hW.size; omega) fun _ _ => rfl) (by omega)
      have HCN := Lib.hid hcn
      have HC := Lib.hid hcall
      have HPQ := Lib.hid hpk'
      have HBD := Lib.hid hbd
      clear hcn hcall hpk' hbd he hej hE' hpar'
      go_wp2_with fail
      refine (HC.out _ (by repeat (first | exact Below.refl _ _ | assumption | refine Below.drew ?_ | refine below_drewN ?_ _ | refine Below.alloc ?_ (by first | omega | (simp; omega) | simp) _ | refine Below.setCell ?_ (by first | omega | (simp; omega) | simp) _))).mono ?_
      rintro e' w2 ⟨⟨z, rfl, hz⟩, h1, h2⟩
      have hbx : Blk w2 wr.heap.size 27 #[.int .i64 k', .int .u64 a', .int .u64 b', .int .u64 c', .int .u64 d', .string t', .slice A' ks'.length cp'] := h2.box (blk_at rfl) (by decide) (by have := hok.P; omega) (by have := hok.M; omega)
      have hk2 : Keeps c w w2 := (hk'.alloc _).trans h2
      cases o with
      | some q =>
        have hr : r = (some q, σ1) := by have := HPQ.out; simp only [Option.some.injEq] at this; exact this.symm
        obtain rfl := hz q rfl
        subst hr
        go_wp2
        go_ret2
        exact ⟨⟨q, rfl, fun y ht => by injection ht with ht; rw [ht]⟩, h1, hk2⟩
      | none =>
        have x0 : w2.cell? ⟨wr.heap.size, 0, none⟩ = some (.int .i64 k') := hbx.cell 0; have x1 : w2.cell? ⟨wr.heap.size, 1, none⟩ = some (.int .u64 a') := hbx.cell 1; have x2 : w2.cell? ⟨wr.heap.size, 2, none⟩ = some (.int .u64 b') := hbx.cell 2; have x3 : w2.cell? ⟨wr.heap.size, 3, none⟩ = some (.int .u64 c') := hbx.cell 3; have x4 : w2.cell? ⟨wr.heap.size, 4, none⟩ = some (.int .u64 d') := hbx.cell 4; have x5 : w2.cell? ⟨wr.heap.size, 5, none⟩ = some (.string t') := hbx.cell 5; have x6 : w2.cell? ⟨wr.heap.size, 6, none⟩ = some (.slice A' ks'.length cp') := hbx.cell 6
        have hbw2 : Below c.B wr w2 := ((Below.refl _ _).alloc (by omega) _).trans (h2.below (by simp; omega) hb2 hb3 hb1)
        go_wp2_with fail
        refine (HCN.out w2 hbw2).mono ?_
        rintro e' w3 ⟨rfl, hb3'⟩
        go_wp2
        go_roundw
        case rel => exact ⟨j + 1, n + nodes (.mk k' a' b' c' d' t' ks'), σ1, by omega, by go_num, by go_num, by omega, Lib.hid (pk_le HPQ.out (Nat.le_succ _)), Lib.hid HBD.out.2, h1.below hok hb3', hk2.trans (Keeps.of_below hb3')⟩
        case measure => simp [intOf]; omega
    · obtain rfl : j = ks.length := by omega
      have hpk' := HP.out
      rw [List.drop_length] at hpk'
      have hr : r = (none, σ') := by
        cases m with
        | zero => cases hpk'
        | succ m' => simp only [pk, Option.some.injEq] at hpk'; exact hpk'.symm
      subst hr
      go_wp2
      go_ret2
      exact ⟨⟨0, rfl, fun y ht => by cases ht⟩, hpar', hk'⟩

set_option maxRecDepth 100000 in
set_option maxHeartbeats 4000000 in
theorem node_seq {c : PC} (hok : c.Ok) {g : List Rl} {m : Nat} (hT : DoesTry c g m) (a b d1 d2 : Int) (t : ByteArray) (ks : List Ex) (num p : Nat) (σ : PS) (r : Option Nat × PS) (cs : List Value) (w : World)
    (hpk : pk g c.s.data.toList c.hk m (.seq ks (num + 1)) p σ = some r) (hE : ExIs w c.B (.mk 5 a b d1 d2 t ks) cs) (hR : ∀ e ∈ ks, RtW g e) (hnum : num + 1 + nodesAll ks ≤ c.lim) (hp : p ≤ c.s.data.toList.length) (hB : Bound c.s.data.toList.length σ) (h : Par c w σ) :
    Calls Try.prog 50 #[.pointer (some ⟨c.P, 0, none⟩), .agg cs.toArray, .int .i64 num, .int .i64 p] w (Went c w r) := by
  have hsz := h.size
  have hb1 := hok.Bb
  obtain ⟨ht, KA, kcp, rfl, hkc, hkm, _⟩ := hE.shape
  have hal : Below w.heap.size w (w.alloc (.cells #[.int .i64 5, .int .u64 a, .int .u64 b, .int .u64 d1, .int .u64 d2, .string t, .slice KA ks.length kcp] 27)) := (Below.refl _ _).alloc (Nat.le_refl _) _
  have hc := seq_any hok hT 5 a b d1 d2 t ks num p σ r _ _ hpk (hE.on (hal.mono (by omega))) hR hnum hp hB (h.below hok hal)
  have hk := Keeps.of_below (c := c) hal
  unfold exCells at hc ⊢
  have HC := Lib.hid hc
  have HK := Lib.hid hk
  clear hc hE hpk hR hnum hB hT hk
  go_enter Try.func50, Try.ntmps50
  go_wp2_with fail
  refine HC.out.mono ?_
  rintro e' w2 ⟨⟨z, rfl, hz⟩, h1, h2⟩
  go_wp2
  go_ret2
  exact ⟨⟨z, rfl, hz⟩, h1, HK.out.trans h2⟩

set_option maxRecDepth 100000 in
set_option maxHeartbeats 4000000 in
theorem node_one {c : PC} (hok : c.Ok) {g : List Rl} {m : Nat} (hT : DoesTry c g m) (k a b d1 d2 : Int) (t : ByteArray) (e : Ex) (num p : Nat) (σ : PS) (r : Option Nat × PS) (cs : List Value) (w : World) (h7 : 7 ≤ k) (h11 : k ≤ 11)
    (hpk : pk g c.s.data.toList c.hk m (.one k e num) p σ = some r) (hE : ExIs w c.B (.mk k a b d1 d2 t [e]) cs) (hR : RtW g e) (hnum : num + 1 + nodes e ≤ c.lim) (hp : p ≤ c.s.data.toList.length) (hB : Bound c.s.data.toList.length σ) (h : Par c w σ) :
    Calls Try.prog 50 #[.pointer (some ⟨c.P, 0, none⟩), .agg cs.toArray, .int .i64 num, .int .i64 p] w (Went c w r) := by
  have hsz := h.size
  have hb1 := hok.Bb
  obtain ⟨ht, KA, kcp, rfl, hkc, hkm, _⟩ := hE.shape
  have hal : Below w.heap.size w (w.alloc (.cells #[.int .i64 k, .int .u64 a, .int .u64 b, .int .u64 d1, .int .u64 d2, .string t, .slice KA 1 kcp] 27)) := (Below.refl _ _).alloc (Nat.le_refl _) _
  have hc := single_any hok hT k a b d1 d2 t e num p σ r _ _ h7 h11 hpk (hE.on (hal.mono (by omega))) hR hnum hp hB (h.below hok hal)
  have hk := Keeps.of_below (c := c) hal
  unfold exCells at hc ⊢
  have hkl : ([e] : List Ex).length = 1 := rfl
  rw [hkl] at hc ⊢
  have HC := Lib.hid hc
  have HK := Lib.hid hk
  have z1 : (k == 1) = false := by rw [beq_eq_false_iff_ne]; omega
  have z2 : (k == 2) = false := by rw [beq_eq_false_iff_ne]; omega
  have z3 : (k == 3) = false := by rw [beq_eq_false_iff_ne]; omega
  have z4 : (k == 4) = false := by rw [beq_eq_false_iff_ne]; omega
  have z5 : (k == 5) = false := by rw [beq_eq_false_iff_ne]; omega
  have z6 : (k == 6) = false := by rw [beq_eq_false_iff_ne]; omega
  clear hc hE hpk hR hnum hB hT hk h7 h11
  go_enter Try.func50, Try.ntmps50
  go_wp2_with fail
  refine HC.out.mono ?_
  rintro e' w2 ⟨⟨z, rfl, hz⟩, h1, h2⟩
  go_wp2
  go_ret2
  exact ⟨⟨z, rfl, hz⟩, h1, HK.out.trans h2⟩
end Go.Proofs.Ytndhbdbfjkmloaa
namespace Go.Proofs.Ytndhbdbfjkmloaa
open Go.RowKit Go.Maps

/-- a parser's grammar and text are right and not too long -/
structure PC.Fit (c : PC) : Prop where
  ok : c.Ok
  hook : HookOk c
  rules : c.g.length ≤ 1000
  len : c.s.data.toList.length ≤ 1000
  rt : ∀ r ∈ c.g, RtW c.g r.2
  nodes : ∀ i r, c.g[i]? = some r → firstN c.g i + Go.Proofs.Ytndhbdbfjkmloaa.nodes r.2 ≤ c.lim

theorem rule_any {c : PC} (F : c.Fit) {m : Nat} (hT : DoesTry c c.g m) : DoesRule c (m + 1) := by
  intro i p σ r w hpk hi hp hB h
  have hl := F.len
  have hg := F.rules
  simp only [pk] at hpk
  cases hs : recall σ.seen (i, p) with
  | some o =>
    rw [hs] at hpk
    simp only [Option.some.injEq] at hpk
    subst hpk
    exact (rule_hit F.ok i p (by unfold big; omega) (by unfold big; omega) o hs w h).mono fun e w' hh => ⟨⟨o, hh.1, rfl⟩, hh.2⟩
  | none =>
    rw [hs] at hpk
    obtain ⟨rr, hr⟩ : ∃ rr, c.g[i]? = some rr := ⟨_, List.getElem?_eq_getElem hi⟩
    simp only [hr] at hpk
    cases he : pk c.g c.s.data.toList c.hk m (.try_ rr.2 (firstN c.g i)) p σ with
    | none => rw [he] at hpk; cases hpk
    | some x =>
      obtain ⟨o, σ1⟩ := x
      rw [he] at hpk
      simp only at hpk
      split at hpk
      · cases hpk
      rename_i hn
      simp only [Option.some.injEq] at hpk
      subst hpk
      have hbd := pk_bound _ _ _ _ _ _ _ _ _ he hp hB
      have hge := pk_ge _ _ _ _ _ _ _ _ _ he
      have hn' : recall σ1.seen (i, p) = none := by simpa using hn
      refine (rule_new F.ok i p (o.getD 0) hi hg hp hl o hs hn' (fun q hq => ⟨by rw [hq]; rfl, hge q hq⟩) (by
        cases o with
        | none => simp
        | some q => have := hbd.1 q rfl; simp; omega) (fun r cs W hr' hE hP => by
          rw [hr] at hr'
          injection hr' with hr'
          subst hr'
          exact hT _ _ p σ (o, σ1) _ W he hE (F.rt _ (List.mem_of_getElem? hr)) (F.nodes i _ hr) hp hB hP) w h).mono fun e w' hh => ⟨⟨_, hh.1, ?_⟩, hh.2⟩
      cases o with
      | none => rfl
      | some q =>
        have := hge q rfl
        simp only [Option.map_some, Option.some.injEq]
        omega

theorem u64_nat {a : Int} (h : U64 a) : ∃ n : Nat, a = n ∧ n < 18446744073709551616 := by
  obtain ⟨h1, h2⟩ := h
  exact ⟨a.toNat, by omega, by omega⟩
theorem node_any {c : PC} (F : c.Fit) {m : Nat} (hT : DoesTry c c.g m) (hU : DoesRule c m) : DoesNode c c.g (m + 1) := by
  intro e num p σ r cs w hpk hE hR hnum hp hB h
  have hl := F.len
  have hbd := pk_bound _ _ _ _ _ _ _ _ _ hpk hp hB
  obtain ⟨hrt, hwf⟩ := hR
  cases hrt with
  | mk k a b d1 d2 t ks hfit hname hkids =>
  cases hwf with
  | mk _ _ _ _ _ _ _ hk64 wa wb wc wd wks =>
  have hRk : ∀ e ∈ ks, RtW c.g e := fun e he => ⟨hkids e he, wks e he⟩
  rw [nodes] at hnum
  rw [pk_node] at hpk
  have hlb : c.s.data.toList.length ≤ big := by unfold big; omega
  rcases fit_cases hfit with ⟨rfl, h0⟩ | ⟨rfl, h0⟩ | ⟨rfl, h0, _, h60⟩ | ⟨rfl, h0, _⟩ | ⟨rfl, h2, h8⟩ | ⟨rfl, h2, h8⟩ | ⟨h7, h11, h1⟩
  · rw [if_pos rfl] at hpk
    simp only [Option.some.injEq] at hpk
    subst hpk
    obtain ⟨_, A, cp, rfl, _⟩ := hE.shape
    exact node_empty F.ok a b d1 d2 t A _ cp num p w h
  · rw [if_neg (by decide), if_pos rfl] at hpk
    obtain ⟨_, A, cp, rfl, _⟩ := hE.shape
    obtain ⟨a, rfl, ha⟩ := u64_nat wa
    obtain ⟨b, rfl, hb⟩ := u64_nat wb
    obtain ⟨d1, rfl, hc⟩ := u64_nat wc
    obtain ⟨d2, rfl, hd⟩ := u64_nat wd
    have := node_set F.ok (σ := σ) a b d1 d2 ha hb hc hd t A ks.length cp num p hp hlb w h
    rw [show (if p < c.s.data.toList.length ∧ hasE a b d1 d2 (bt c.s.data.toList p) = true then (some (p + 1), σ) else (none, missS σ p ⟨a, b, d1, d2⟩)) = r from by
      split at hpk
      · rename_i hc; rw [if_pos hc]; injection hpk
      · rename_i hc; rw [if_neg hc]; injection hpk] at this
    exact this
  · rw [if_neg (by decide), if_neg (by decide), if_pos rfl] at hpk
    obtain ⟨hts, A, cp, rfl, _⟩ := hE.shape
    have := node_lit F.ok (σ := σ) a b d1 d2 t A ks.length cp num p hp hlb (by have : t.data.toList.length = t.size := size_list t; unfold big; omega) w h
    rw [show (if litAt c.s.data.toList p t.data.toList = true then (some (p + t.size), σ) else (none, missS σ (p + matchN c.s.data.toList p t.data.toList) (oneS (bt t.data.toList (matchN c.s.data.toList p t.data.toList))))) = r from by
      split at hpk
      · rename_i hc; rw [if_pos hc]; injection hpk
      · rename_i hc; rw [if_neg hc]; injection hpk] at this
    exact this
  · rw [if_neg (by decide), if_neg (by decide), if_neg (by decide), if_pos rfl] at hpk
    obtain ⟨_, A, cp, rfl, _⟩ := hE.shape
    have hi := hname rfl
    have hlt := (fndFrom_le c.g t.data.toList 0).2
    have hin : ((fnd c.g t.data.toList).toNat : Int) = fnd c.g t.data.toList := Int.toNat_of_nonneg hi
    exact node_ref F.ok a b d1 d2 t A ks.length cp num p (by omega) r (fun q hq => by have := hbd.1 q hq; omega) w h fun W hW => by
      have := hU (fnd c.g t.data.toList).toNat p σ r W hpk (by unfold fnd; unfold fnd at hi; omega) hp hB hW
      rw [hin] at this
      exact this
  · rw [if_neg (by decide), if_neg (by decide), if_neg (by decide), if_neg (by decide), if_pos rfl] at hpk
    exact node_seq F.ok hT a b d1 d2 t ks num p σ r cs w hpk hE hRk (by omega) hp hB h
  · rw [if_neg (by decide), if_neg (by decide), if_neg (by decide), if_neg (by decide), if_neg (by decide), if_pos rfl] at hpk
    exact node_alt F.ok hT a b d1 d2 t ks num p σ r cs w hpk hE hRk (by omega) hp hB h
  · rw [if_neg (by omega), if_neg (by omega), if_neg (by omega), if_neg (by omega), if_neg (by omega), if_neg (by omega)] at hpk
    match ks, h1 with
    | [e], _ =>
      rw [nodesAll, nodesAll] at hnum
      exact node_one F.ok hT k a b d1 d2 t e num p σ r cs w h7 h11 hpk hE (hRk e (by simp)) (by omega) hp hB h

theorem does {c : PC} (F : c.Fit) : ∀ m, DoesNode c c.g m ∧ DoesTry c c.g m ∧ DoesRule c m := by
  intro m
  induction m with
  | zero => exact ⟨fun e num p σ r cs w hpk => (by cases hpk), fun e num p σ r cs w hpk => (by cases hpk), fun i p σ r w hpk => (by cases hpk)⟩
  | succ m ih => exact ⟨node_any F ih.2.1 ih.2.2, try_any F.ok F.hook ih.1, rule_any F ih.2.1⟩
end Go.Proofs.Ytndhbdbfjkmloaa
namespace Go.Proofs.Ytndhbdbfjkmloaa
open Go.RowKit Go.Maps

theorem int_info_ : (Try.prog.info? 3).map (fun i => (i.zero, i.size, i.bytes)) = some (some (.int .i64 0), 1, 8) := by kernel_rfl
def ps0 : PS := ⟨[], [], -1, noS, []⟩
/-- the numbers of the first nodes of rules -/
def firstsN (g : List Rl) (j : Nat) : List Nat := (List.range j).map (firstN g)
theorem firstsN_succ (g : List Rl) (j : Nat) : firstsN g (j + 1) = firstsN g j ++ [firstN g j] := by
  unfold firstsN
  rw [List.range_succ, List.map_append]
  rfl
theorem firstN_succ {g : List Rl} {j : Nat} {r : Rl} (h : g[j]? = some r) : firstN g (j + 1) = firstN g j + nodes r.2 := by
  unfold firstN
  rw [take_succ_of h, List.map_append, List.sum_append]
  simp
theorem firstN_le {g : List Rl} (h : ∀ r ∈ g, nodes r.2 ≤ 60) : ∀ j, firstN g j ≤ j * 60 := by
  intro j
  induction j with
  | zero => simp [firstN]
  | succ j ih =>
    cases hr : g[j]? with
    | some r =>
      rw [firstN_succ hr]
      have := h r (List.mem_of_getElem? hr)
      omega
    | none =>
      have hl : g.length ≤ j := List.getElem?_eq_none_iff.1 hr
      unfold firstN at ih ⊢
      rw [List.take_of_length_le (by omega)]
      rw [List.take_of_length_le (by omega)] at ih
      omega
theorem own_ne_t {w : World} {base n size k : Nat} {e T : TypeId} {v : Value} {xs : List Value} {cs : Array Value} (hb : Blk w k T cs) (ho : w.ownsRow base e size v n xs) (hT : T ≠ e) : some k ≠ v.ownBlock := fun h => by
  rcases ho.2 with ⟨rfl, _⟩ | ⟨g, cap, cur, rfl, hb', hgg, _⟩
  · cases h
  · simp only [Value.ownBlock, Option.some.injEq] at h
    subst h
    have hb2 : w.heap[k]? = some (.cells cs T (0, 0)) := hb
    rw [hgg] at hb2
    injection hb2 with hb2
    injection hb2 with e1 e2 e3
    exact hT e2.symm
theorem own_cell {w : World} {base n i F cap : Nat} {e : TypeId} {xs : List Value} {u : Value} (ho : w.ownsRow base e 1 (.slice (some ⟨F, 0, none⟩) n cap) n xs) (h : xs[i]? = some u) : w.cell? ⟨F, i, none⟩ = some u := by
  rcases ho.2 with ⟨h1, _⟩ | ⟨g, cap', cur, h1, hb', hgg, _, _, _, hx⟩
  · cases h1
  · injection h1 with h1 h2 h3
    injection h1 with h1
    injection h1 with h1
    subst h1
    rw [cell_of_row w F i cur e (0, 0) hgg, ← Array.getElem?_toList]
    have hi := getElem?_lt h
    rw [← hx, List.getElem?_take] at h
    split at h
    · exact h
    · cases h
def natV (l : List Nat) : List Value := l.map fun x : Nat => Value.int .i64 x
/-- what New leaves -/
def NewQ (g : List Rl) (s : ByteArray) (A : Option Addr) (cp : Nat) (row : Nat → List Value) (w : World) (e : Ending) (w' : World) : Prop := ∃ c : PC, c.g = g ∧ c.s = s ∧ c.hook = .nilFunc ∧ (c.hk = false ∧ c.lim = 1000000000000 ∧ c.B ≤ c.F ∧ c.A = A ∧ c.cp = cp ∧ c.row = row) ∧ e = .returned (.pointer (some ⟨c.P, 0, none⟩)) ∧ c.Ok ∧ Par c w' ps0 ∧ Below w.heap.size w w' ∧ c.B = w.heap.size
/-- the parser's cells while it is made -/
def newC (A : Option Addr) (n cp : Nat) (s : ByteArray) (M : Nat) (fv : Value) : Array Value :=
  #[.slice A n cp, .string s, .map (some M), .slice none 0 0, .int .i64 (-1), .int .u64 0, .int .u64 0, .int .u64 0, .int .u64 0, .nilFunc, fv]

set_option maxRecDepth 100000 in
set_option maxHeartbeats 8000000 in
theorem new_any {g : List Rl} {A : Option Addr} {cp : Nat} {row : Nat → List Value} {w : World} (h : GrIs w w.heap.size g A cp row) (h0 : 0 < g.length) (h10 : g.length ≤ 10) (h60 : ∀ r ∈ g, nodes r.2 ≤ 60) (s : ByteArray) :
    Calls Try.prog 20 #[.agg #[.slice A g.length cp], .string s] w (NewQ g s A cp row w) := by
  have hmm := @run_makeMap Try.prog
  obtain ⟨i0, hi, hz0, hz1, hz2⟩ := info_parts int_info_
  have H := Lib.hid h
  have H60 := Lib.hid h60
  have hfl := firstN_le h60
  have HFL := Lib.hid hfl
  clear h h60 hfl
  go_enter Try.func20, Try.ntmps20
  go_wp2
  go_loopw [6, 17] (fun n i wr => ∃ (j : Nat) (fv : Value), j ≤ g.length ∧ i = .int .i64 j ∧ n = .int .i64 (firstN g j : Nat) ∧ Blk wr (w.heap.size + 1 + 1) 85 (newC A g.length cp s (w.heap.size + 1) fv) ∧ Hid (wr.ownsRow (w.heap.size + 3) 3 1 fv j (natV (firstsN g j))) ∧ Hid (Memo wr (w.heap.size + 1) []) ∧ Below w.heap.size w wr ∧ w.heap.size + 3 ≤ wr.heap.size) (fun _ i _ => g.length - (intOf i).toNat)
  case atStart =>
    refine ⟨0, .slice none 0 0, by omega, rfl, rfl, blk_at (by simp), World.ownsRow_nil _ _ _ _, ?_, (by repeat (first | exact Below.refl _ _ | assumption | refine Below.drew ?_ | refine below_drewN ?_ _ | refine Below.alloc ?_ (by first | omega | (simp; omega) | simp) _ | refine Below.setCell ?_ (by first | omega | (simp; omega) | simp) _)), by simp⟩
    have h1 := memo_made (w.alloc (.cells #[.slice A g.length cp] 35))
    rw [show (w.alloc (.cells #[.slice A g.length cp] 35)).heap.size = w.heap.size + 1 by simp] at h1
    exact h1.kept (grown_of_below ((Below.refl _ _).alloc (Nat.le_refl _) _) none) (by simp)
  case round =>
    obtain ⟨j, fv, hj, rfl, rfl, hbx, HO, HMe, hwr, hz3⟩ := hrel
    obtain ⟨V, c', rfl⟩ := own_form HO.out
    have hfj := HFL.out j
    have hpl := hbx.lt
    have p10 : wr.cell? ⟨w.heap.size + 1 + 1, 10, none⟩ = some (.slice V j c') := hbx.cell 10
    have hwz := hwr.size
    by_cases hjk : j < g.length
    · obtain ⟨ad, nm, k', a', b', c1, d', t', ks', A', cp', rfl, hab, hej, hnm, hE, ⟨e0, e1, e2, e3, e4, e5, e6, e7⟩⟩ := (H.out.on hwr).rule hjk
      have hfs := firstN_succ hej
      have hn60 := H60.out _ (List.mem_of_getElem? hej)
      have hcn := fun W (hW : Below w.heap.size w W) => countK_any _ _ W (hE.keep hW.size fun _ hp => (hW.cell hp).trans (hwr.cell hp).symm) (by simp only at hn60; omega)
      have hnewc : ∀ (u : Nat) (v : Value), [Value.int .i64 (firstN g j : Nat)][u]? = some v → ((wr.alloc (.cells #[.string nm, .int .i64 k', .int .u64 a', .int .u64 b', .int .u64 c1, .int .u64 d', .string t', .slice A' ks'.length cp'] 87)).alloc (.cells #[.int .i64 (firstN g j : Nat)] 3)).cell? ((⟨wr.heap.size + 1, 0, none⟩ : Addr).add u) = some v := by
        have h1 := new_cells (wr.alloc (.cells #[.string nm, .int .i64 k', .int .u64 a', .int .u64 b', .int .u64 c1, .int .u64 d', .string t', .slice A' ks'.length cp'] 87)) 3 [.int .i64 (firstN g j : Nat)]
        rw [show (wr.alloc (.cells #[.string nm, .int .i64 k', .int .u64 a', .int .u64 b', .int .u64 c1, .int .u64 d', .string t', .slice A' ks'.length cp'] 87)).heap.size = wr.heap.size + 1 by simp] at h1
        exact h1
      have hbr : Blk ((wr.alloc (.cells #[.string nm, .int .i64 k', .int .u64 a', .int .u64 b', .int .u64 c1, .int .u64 d', .string t', .slice A' ks'.length cp'] 87)).alloc (.cells #[.int .i64 (firstN g j : Nat)] 3)) wr.heap.size 87 #[.string nm, .int .i64 k', .int .u64 a', .int .u64 b', .int .u64 c1, .int .u64 d', .string t', .slice A' ks'.length cp'] := (blk_at rfl).alloc _
      unfold exCells at hcn
      have HNC := Lib.hid hnewc
      have HCN := Lib.hid hcn
      have HFS := Lib.hid hfs
      have HBR := Lib.hid hbr
      have HBX := Lib.hid hbx
      simp only at hn60
      generalize nodes (.mk k' a' b' c1 d' t' ks') = nn at HFS HCN hn60
      generalize hq : firstN g j = q at hfj HNC HFS HBR
      have HQ := Lib.hid hq
      clear hnewc hcn hfs hE hej hbr hq
      have hq600 : q ≤ 600 := by omega
      go_wp2_with (at_builtin; refine wpList_append_own _ rfl _ _ _ rfl (w.heap.size + 3) 3 i0 _ 1 8 Try.underlying83 hi hz0 hz1 hz2 rfl (by decide) _ _ _ rfl ((HO.out.alloc _).alloc _) ⟨wr.heap.size + 1, 0, none⟩ 1 1 [.int .i64 q] rfl rfl HNC.out (by simp [Value.oneCell']) (by unfold maxLen; omega) (by omega) (by simp; omega) ?_; intro v' w2 hown2 hgr2 _; obtain ⟨V2, c2, rfl⟩ := own_form hown2; have hP2 := ((HBX.out.alloc _).alloc _).grown hgr2 (own_ne HO.out (by omega)); have s10 : w2.cell? ⟨w.heap.size + 1 + 1, 10, none⟩ = some (.slice V j c') := hP2.cell 10; have f10 := hP2.frozen 10; have hB2 := HBR.out.grown hgr2 (own_ne_t HBR.out ((HO.out.alloc _).alloc _) (by decide)); have hgs := hgr2.size; have y0 : w2.cell? ⟨wr.heap.size, 0, none⟩ = some (.string nm) := hB2.cell 0; have y1 : w2.cell? ⟨wr.heap.size, 1, none⟩ = some (.int .i64 k') := hB2.cell 1; have y2 : w2.cell? ⟨wr.heap.size, 2, none⟩ = some (.int .u64 a') := hB2.cell 2; have y3 : w2.cell? ⟨wr.heap.size, 3, none⟩ = some (.int .u64 b') := hB2.cell 3; have y4 : w2.cell? ⟨wr.heap.size, 4, none⟩ = some (.int .u64 c1) := hB2.cell 4; have y5 : w2.cell? ⟨wr.heap.size, 5, none⟩ = some (.int .u64 d') := hB2.cell 5; have y6 : w2.cell? ⟨wr.heap.size, 6, none⟩ = some (.string t') := hB2.cell 6; have y7 : w2.cell? ⟨wr.heap.size, 7, none⟩ = some (.slice A' ks'.length cp') := hB2.cell 7)
      have hw2 : Below w.heap.size w w2 := below_app ((hwr.alloc hwz _).alloc (by simp; omega) _) ((HO.out.alloc _).alloc _) hgr2 (by simp; omega) (by omega)
      have hw2z := hw2.size
      refine (HCN.out _ (hw2.setCell (by simp; omega) _)).mono ?_
      rintro e w3 ⟨rfl, hb3⟩
      have hP3 : Blk w3 (w.heap.size + 1 + 1) 85 (newC (some ad) g.length cp s (w.heap.size + 1) (.slice V2 (j + 1) c2)) := (hP2.set_ 10 (.slice V2 (j + 1) c2)).below hb3 (by have := hP2.lt; simpa [World.setCell] using this)
      have hgp : w2.grownBy (w2.setCell ⟨w.heap.size + 1 + 1, 10, none⟩ (.slice V2 (j + 1) c2)) (some (w.heap.size + 1 + 1)) := ⟨rfl, rfl, rfl, by simp [World.setCell], fun k hk hne => Below.heap_setCell w2 ⟨w.heap.size + 1 + 1, 10, none⟩ _ k (by rintro rfl; exact hne rfl)⟩
      have hO3 := own_below (own_far hown2 hgp (by omega)) hb3
      have hM2 := (((HMe.out.kept (grown_of_below (((Below.refl _ wr).alloc (Nat.le_refl _) _).alloc (by simp) _) none) (by simp)).kept hgr2 (own_ne HO.out (by omega))).kept hgp (by simp)).kept (grown_of_below hb3 none) (by simp)
      have hw3 : Below w.heap.size w w3 := (hw2.setCell (by simp; omega) _).trans (hb3.mono (by simpa [World.setCell] using hw2z))
      have hz4 : w.heap.size + 3 ≤ w3.heap.size := by have := hP3.lt; omega
      have hq1 : q + nn ≤ 700 := by omega
      clear y0 y1 y2 y3 y4 y5 y6 y7 s10 f10 hb3 hgp hown2 hP2 hB2
      go_wp2
      go_roundw
      case rel => exact ⟨j + 1, .slice V2 (j + 1) c2, by omega, by go_num, by rw [HFS.out]; go_num, hP3, (by show World.ownsRow _ _ _ _ _ _ _; rw [firstsN_succ, HQ.out, natV, List.map_append]; exact hO3), hM2, hw3, hz4⟩
      case measure => simp [intOf]; omega
    · obtain rfl : j = g.length := by omega
      obtain ⟨F, c3, hF⟩ := Joins.ownsRow_form HO.out h0
      simp only [Value.slice.injEq, true_and] at hF
      obtain ⟨rfl, rfl⟩ := hF
      have hFl := HO.out.lt F rfl
      go_wp2
      go_ret
      refine ⟨{ B := w.heap.size, P := w.heap.size + 1 + 1, M := w.heap.size + 1, F := F, base := wr.heap.size, A := A, n := g.length, cp := cp, fcp := c', s := s, hook := .nilFunc, firsts := firstsN g g.length, g := g, row := row, ob := w.heap.size + 1, bo := 0, hk := false, lim := 1000000000000 }, rfl, rfl, rfl, ⟨rfl, rfl, by simp; omega, rfl, rfl, rfl⟩, rfl, ⟨by simp; omega, by simp, by simp; omega, by simp; omega, by simp; omega, by simp; omega, by simp; omega, by simp; omega, by simp, rfl, fun i hi => ?_, Nat.le_refl _, fun h => (by cases h)⟩, ⟨⟨.slice none 0 0, hbx, World.ownsRow_nil _ _ _ _⟩, HMe.out, fun i x hi => ?_, by simp, H.out.on hwr, ⟨by simp [ps0], by simp [ps0], rfl⟩, fun h => (by cases h)⟩, hwr, rfl⟩
      · have hi' : i < g.length := hi
        simp [firstsN, hi']
      · have hi' : (firstsN g g.length)[i]? = some x := hi
        exact own_cell HO.out (by simp [natV, hi'])
end Go.Proofs.Ytndhbdbfjkmloaa
