/- The walk of the law PackOnce. -/
import Derived.Test.YtapihikbdcplaaaPoA
import Derived.Test.YtapihikbdcplaaaWtB
namespace Go.Proofs.Ytapihikbdcplaaa
open Go.RowKit Go.Maps

theorem once_look : lookG [(nameA, litE ⟨#[120]⟩)] ⟨#[120]⟩ = 0 := by decide +kernel
theorem once_pk : (pk [(nameA, litE ⟨#[120]⟩)] [120] false 4 (.rule 0) 0 ps0).map (fun r => (r.1, r.2.log)) = some (some 1, [(0, 0, some 1)]) := by decide +kernel
theorem once_log {m : Nat} {o : Option Nat} {σ1 : PS} (h : pk [(nameA, litE ⟨#[120]⟩)] [120] false m (.rule 0) 0 ps0 = some (o, σ1)) : o = some 1 ∧ σ1.log = [(0, 0, some 1)] := by
  obtain ⟨r, h1, h2⟩ := Option.map_eq_some_iff.1 once_pk
  have h3 := pk_le h (Nat.le_max_left m 4)
  have h4 := pk_le h1 (Nat.le_max_right m 4)
  rw [h3] at h4
  injection h4 with h4
  subst h4
  simp only [Prod.mk.injEq] at h2
  exact h2
theorem recall_of {l : List ((Nat × Nat) × Option Nat)} (hn : (l.map (·.1)).Nodup) {k : Nat × Nat} {o : Option Nat} (h : (k, o) ∈ l) : recall l k = some o := by
  induction l with
  | nil => cases h
  | cons y l ih =>
    simp only [List.map_cons, List.nodup_cons] at hn
    unfold recall
    rw [List.find?_cons]
    by_cases hy : y.1 = k
    · simp only [hy, decide_true, Option.map_some]
      rcases List.mem_cons.1 h with h | h
      · rw [← h]
      · exact absurd (List.mem_map.2 ⟨_, h, hy.symm ▸ rfl⟩) hn.1
    · simp only [hy, decide_false]
      rcases List.mem_cons.1 h with h | h
      · exact absurd (by rw [← h]) hy
      · exact ih hn.2 h
/-- a step that was taken is what At answers -/
theorem once_at {g : List Rl} {s : ByteArray} {σ1 : PS} (hl : lookG g s = 0) (ha : Agree g s.data.toList σ1) (ht : Tight g s.size σ1) {x : Stp} (hx : x ∈ σ1.log) {v : Option Nat} {y : Int} (h : AtR g x.1 s x.2.1 v y) : v = x.2.2 ∧ y = 0 := by
  rw [ht.log] at hx
  obtain ⟨z, hz, rfl⟩ := List.mem_map.1 hx
  have hin := ht.inn z.1 (List.mem_map.2 ⟨z, hz, rfl⟩)
  have hr := recall_of ht.nodup (k := z.1) (o := z.2) hz
  obtain ⟨r, n, hg, he⟩ := ha z.1.1 z.1.2 z.2 hr
  rcases h with ⟨h1, _⟩ | ⟨_, h2, _⟩ | ⟨_, j, q, r', o, h3, h4, _, h5, h6, rfl, rfl⟩
  · exact absurd hl h1
  · exfalso
    simp only at h2
    omega
  · simp only at h3 h4
    have e1 : j = z.1.1 := by omega
    have e2 : q = z.1.2 := by omega
    subst e1 e2
    rw [hg] at h5
    injection h5 with h5
    subst h5
    obtain rfl := h6.eq ⟨n, he⟩
    refine ⟨?_, rfl⟩
    cases z.2 with
    | none => rfl
    | some k => simp
/-- no step stands twice -/
theorem once_no {g : List Rl} {L : Nat} {σ1 : PS} (ht : Tight g L σ1) {j : Nat} {x : Stp} (hx : σ1.log[j]? = some x) : ∀ y ∈ σ1.log.take j, ¬ (y.1 = x.1 ∧ y.2.1 = x.2.1) := by
  intro y hy he
  obtain ⟨i, hi⟩ := List.getElem?_of_mem hy
  rw [List.getElem?_take] at hi
  split at hi
  · rename_i hij
    have hk : ∀ (i : Nat) (x : Stp), σ1.log[i]? = some x → (σ1.seen.map (·.1))[i]? = some (x.1, x.2.1) := fun i x hx => by
      rw [ht.log, List.getElem?_map, Option.map_eq_some_iff] at hx
      obtain ⟨z, hz, rfl⟩ := hx
      rw [List.getElem?_map, hz]
      rfl
    have h1 := hk i y hi
    have h2 := hk j x hx
    rw [he.1, he.2, ← h2] at h1
    have := (List.getElem?_inj (getElem?_lt h2) ht.nodup).1 h1.symm
    omega
  · cases hi

theorem reads_one_step {w : World} {b : Nat} (h : Blk w b 76 #[.int .i64 0, .int .i64 0, .bool true, .int .i64 1]) : Reads w w.heap.size 4 (some ⟨b, 0, none⟩) 1 (([(0, 0, some 1)] : List Stp).flatMap stepC) := by
  refine ⟨rfl, fun _ => ⟨_, rfl, h.lt, fun j u hu => ?_⟩⟩
  rw [cell_add, h.cell, ← Array.getElem?_toList]
  exact hu
set_option maxRecDepth 100000 in
set_option maxHeartbeats 8000000 in
theorem walk_PackOnce {g : List Rl} {A : Option Addr} {cp : Nat} {row : Nat → List Value} (s : ByteArray) (w : World) (h : GrIs w w.heap.size g A cp row) (hwf : ∀ r ∈ g, WfE r.2) :
    Calls Try.prog 14 #[.agg #[.slice A g.length cp], .string s] w fun e w' => e = .returned (.bool true) ∧ Below w.heap.size w w' := by
  have hso := run_same_out
  have hss := run_same_stp
  have hlit := lit_b ⟨#[120]⟩
  have hone := fun W => one_b (litE ⟨#[120]⟩) _ W (litE_is W ⟨#[120]⟩ (by decide))
  unfold exCells at hlit hone
  have hrn := fun W (hW : Below w.heap.size w W) => run_any (h.grow hW) hwf s
  have hata := fun W (hW : Below w.heap.size w W) (i p : Int) => at_any (h.grow hW) hwf i s p
  have HR := Lib.hid hrn
  have HAA := Lib.hid hata
  have HL := Lib.hid hlit
  have HO := Lib.hid hone
  clear hrn hata hlit hone h hwf
  go_enter Try.func14, Try.ntmps14
  go_wp2_with fail
  refine (HL.out _).mono ?_
  rintro e w1 ⟨rfl, hb1⟩
  have hgx : Blk w1 w.heap.size 24 #[.slice A g.length cp] := (blk_at rfl).below hb1 (by simp)
  have hw1 : Below w.heap.size w w1 := ((Below.refl _ w).alloc (Nat.le_refl _) _).trans (hb1.mono (by simp))
  clear hb1
  go_wp2_with fail
  refine (HO.out _).mono ?_
  rintro e w2 ⟨b, rfl, hG, hb2⟩
  have hgx2 := hgx.below hb2 hgx.lt
  have hw2 := hw1.trans (hb2.mono hw1.size)
  clear hb2 hgx hw1
  go_wp2_with fail
  refine (run_any hG (wf_one (wfe_lit _)) ⟨#[120]⟩).mono ?_
  rintro e w3 ⟨hb3, hq⟩
  rcases hq with ⟨hl0, _⟩ | ⟨_, o, σ1, V, lc, l', ⟨m, hpk⟩, _, _, _, rfl, hrow⟩
  · exact absurd once_look hl0
  obtain ⟨rfl, hlog⟩ := once_log hpk
  rw [hlog] at hrow ⊢
  have hgx3 := hgx2.below hb3 hgx2.lt
  have hw3 := hw2.trans (hb3.mono hw2.size)
  have hz3 := hw3.size
  have hgl3 := hgx3.lt
  have hrd := own_reads hrow
  have hov : outV (some 1) = .agg #[.bool true, .int .i64 1] := rfl
  rw [hov]
  have hl1 : ([(0, 0, some 1)] : List Stp).length = 1 := rfl
  rw [hl1] at hrd ⊢
  have heq := fun (W : World) (c' b' : Nat) (hW : Below w3.heap.size w3 W) (hb' : Blk W b' 76 #[.int .i64 0, .int .i64 0, .bool true, .int .i64 1]) =>
    equalS_same V (some ⟨b', 0, none⟩) 1 lc c' [(0, 0, some 1)] _ _ W (hrd.below hW) (reads_one_step hb') (by omega)
  have HE := Lib.hid heq
  clear hb3 hgx2 hw2 hG hrow hlog hpk hrd heq hov hl1
  go_wp2_with fail
  refine (HE.out _ _ _ (by repeat (first | exact Below.refl _ _ | assumption | refine Below.drew ?_ | refine below_drewN ?_ _ | refine Below.alloc ?_ (by first | omega | (simp; omega) | simp) _ | refine Below.setCell ?_ (by first | omega | (simp; omega) | simp) _)) (blk_at (by simp))).mono ?_
  rintro e w4 ⟨rfl, d, rfl⟩
  have hw4 : Below w.heap.size w (((w3.alloc (.cells #[.bool true, .int .i64 1] 60)).alloc (.cells #[.int .i64 0, .int .i64 0, .bool true, .int .i64 1] 76)).drewN d) := (by repeat (first | exact Below.refl _ _ | assumption | refine Below.drew ?_ | refine below_drewN ?_ _ | refine Below.alloc ?_ (by first | omega | (simp; omega) | simp) _ | refine Below.setCell ?_ (by first | omega | (simp; omega) | simp) _))
  have hgx4 := (((hgx3.alloc (.cells #[.bool true, .int .i64 1] 60)).alloc (.cells #[.int .i64 0, .int .i64 0, .bool true, .int .i64 1] 76)).drewN d)
  generalize ((w3.alloc (.cells #[.bool true, .int .i64 1] 60)).alloc (.cells #[.int .i64 0, .int .i64 0, .bool true, .int .i64 1] 76)).drewN d = w4 at hw4 hgx4 ⊢
  have g4 : w4.cell? ⟨w.heap.size, 0, none⟩ = some (.slice A g.length cp) := hgx4.cell 0
  clear hgx3 hw3 hz3 hgl3 HE
  go_wp2_with fail
  refine (HR.out _ hw4).mono ?_
  rintro e w5 ⟨hb5, hq⟩
  have hgx5 := hgx4.below hb5 hgx4.lt
  have hw5 := hw4.trans (hb5.mono hw4.size)
  have g5 : w5.cell? ⟨w.heap.size, 0, none⟩ = some (.slice A g.length cp) := hgx5.cell 0
  have hz5 := hw5.size
  have hgl5 := hgx5.lt
  clear hb5 hgx4 hw4 g4
  rcases hq with ⟨hl0, rfl⟩ | ⟨hl0, o, σ1, V, lc, l', _, hag, hti, hlast, rfl, hrow⟩
  · have hlb : (lookG g s != 0) = true := by rw [bne_iff_ne]; exact hl0
    rw [outV_eq]
    clear hl0
    generalize lookG g s = y at hlb
    go_wp2
    go_ret
    exact ⟨rfl, (by repeat (first | exact Below.refl _ _ | assumption | refine Below.drew ?_ | refine below_drewN ?_ _ | refine Below.alloc ?_ (by first | omega | (simp; omega) | simp) _ | refine Below.setCell ?_ (by first | omega | (simp; omega) | simp) _))⟩
  · have hrd := own_reads hrow
    have hlenp : 0 < σ1.log.length := by rw [hlast]; simp
    obtain ⟨ad, hA⟩ : ∃ ad, V = some ad := by
      obtain ⟨ad, h1, _⟩ := hrd.lies hlenp
      exact ⟨ad, h1⟩
    subst hA
    have hlc : σ1.log.length ≤ lc := by
      rcases hrow.2 with ⟨h1, _⟩ | ⟨g1, cap, cur, hv, _, _, hc, _⟩
      · cases h1
      · injection hv with _ _ hv3
        omega
    have h60 := (look_zero hl0).2
    have h10 := (look_zero hl0).1.right.ten
    have hlm := hti.len
    rw [← hti.log_len] at hlm
    have hm1 : g.length * (s.size + 1) ≤ 10 * 61 := Nat.mul_le_mul h10 (by omega)
    have hl610 : σ1.log.length ≤ 610 := by omega
    obtain ⟨ob, on, hobn⟩ : ∃ (ob : Bool) (on : Int), outV o = .agg #[.bool ob, .int .i64 on] := ⟨_, _, outV_eq _⟩
    have hlx : σ1.log[σ1.log.length - 1]? = some (0, 0, o) := by rw [hlast]; simp
    have HLX := Lib.hid hlx
    have HOB := Lib.hid hobn
    have HRD := Lib.hid hrd
    have HAT := fun (j : Nat) (x : Stp) (hx : σ1.log[j]? = some x) (v : Option Nat) (y : Int) (hv : AtR g x.1 s x.2.1 v y) => once_at hl0 hag hti (List.mem_of_getElem? hx) hv
    have HNO := fun (j : Nat) (x : Stp) (hx : σ1.log[j]? = some x) => once_no hti hx
    have HAT' := Lib.hid HAT
    have HNO' := Lib.hid HNO
    rw [hobn]
    clear hrow hrd hlast hag hti hl0 hm1 hlm hlx hobn HAT HNO
    generalize σ1.log = l at HLX HRD HAT' HNO' hlenp hlc hl610 ⊢
    have hbo : Blk (w5.alloc (.cells #[.bool ob, .int .i64 on] 60)) w5.heap.size 60 #[.bool ob, .int .i64 on] := blk_at rfl
    go_wp2
    go_loopw [46] (fun i wr => ∃ j : Nat, j ≤ l.length ∧ i = .int .i64 j ∧ Below (w5.heap.size + 1) (w5.alloc (.cells #[.bool ob, .int .i64 on] 60)) wr) (fun i _ => l.length - (intOf i).toNat)
    case atStart => exact ⟨0, by omega, rfl, by have := Below.refl (w5.alloc (.cells #[.bool ob, .int .i64 on] 60)).heap.size (w5.alloc (.cells #[.bool ob, .int .i64 on] 60)); simpa using this⟩
    case round =>
      obtain ⟨j, hj, rfl, hwr⟩ := hrel
      have hwr5 : Below w5.heap.size w5 wr := ((Below.refl _ w5).alloc (Nat.le_refl _) _).trans (hwr.mono (by omega))
      have hww : Below w.heap.size w wr := hw5.trans (hwr5.mono hz5)
      have hgr := hgx5.below hwr5 hgl5
      have gr : wr.cell? ⟨w.heap.size, 0, none⟩ = some (.slice A g.length cp) := hgr.cell 0
      have hrl := hgr.lt
      have hrz := hww.size
      have hr5 := hwr.size
      simp at hr5
      by_cases hjk : j < l.length
      · obtain ⟨ad', x, hae, hab, hxj, e0, e1, e2, e3⟩ := reads_stp (HRD.out.below hwr5) hjk
        injection hae with hae
        subst hae
        have hcs := fun W (hW : Below wr.heap.size wr W) (b : Nat) (hb : Blk W b 76 (stepC x).toArray) => containsS_any (some ad) j lc l x b W hb (((HRD.out.below hwr5).below (hW.mono (by omega))).more (by have := hW.size; omega)) (by omega) (by omega) (HNO'.out j x hxj)
        have hat := fun W (hW : Below w.heap.size w W) => HAA.out W hW x.1 x.2.1
        have hatr := fun v y => HAT'.out j x hxj v y
        rw [stepC_eq] at hcs
        have HCS := Lib.hid hcs
        have HAT2 := Lib.hid hat
        have HATR := Lib.hid hatr
        have hout : outV x.2.2 = .agg #[.bool x.2.2.isSome, .int .i64 (x.2.2.getD 0 : Nat)] := outV_eq _
        clear hcs hat hatr hxj
        have hj1 : (j : Int) < (l.length : Int) := by omega
        go_wp2_with fail
        refine (HCS.out _ (by repeat (first | exact Below.refl _ _ | assumption | refine Below.drew ?_ | refine below_drewN ?_ _ | refine Below.alloc ?_ (by first | omega | (simp; omega) | simp) _ | refine Below.setCell ?_ (by first | omega | (simp; omega) | simp) _)) _ (blk_at rfl)).mono ?_
        rintro e w6 ⟨rfl, hb6⟩
        have hx6 : Blk w6 wr.heap.size 76 #[.int .i64 x.1, .int .i64 x.2.1, .bool x.2.2.isSome, .int .i64 (x.2.2.getD 0 : Nat)] := (blk_at rfl).below hb6 (by simp)
        have hw6 : Below wr.heap.size wr w6 := ((Below.refl _ wr).alloc (Nat.le_refl _) _).trans (hb6.mono (by simp))
        have hg6 := hgr.below hw6 hrl
        have g6 : w6.cell? ⟨w.heap.size, 0, none⟩ = some (.slice A g.length cp) := hg6.cell 0
        have y0 : w6.cell? ⟨wr.heap.size, 0, none⟩ = some (.int .i64 x.1) := hx6.cell 0
        have y1 : w6.cell? ⟨wr.heap.size, 1, none⟩ = some (.int .i64 x.2.1) := hx6.cell 1
        have hz6 := hw6.size
        clear hb6 e0 e1 e2 e3
        go_wp2_with fail
        refine (HAT2.out _ (hww.trans (hw6.mono hrz))).mono ?_
        rintro e w7 ⟨v, y, hv, rfl, hb7⟩
        obtain ⟨rfl, rfl⟩ := HATR.out v y hv
        have hx7 := hx6.below hb7 hx6.lt
        have z2 : w7.cell? ⟨wr.heap.size, 2, none⟩ = some (.bool x.2.2.isSome) := hx7.cell 2
        have z3 : w7.cell? ⟨wr.heap.size, 3, none⟩ = some (.int .i64 (x.2.2.getD 0 : Nat)) := hx7.cell 3
        have hw7 : Below wr.heap.size wr w7 := hw6.trans (hb7.mono hz6)
        have hxl7 := hx7.lt
        have hz7 := hw7.size
        rw [hout]
        generalize x.2.2.isSome = vb at z2 ⊢
        generalize ((x.2.2.getD 0 : Nat) : Int) = vn at z3 ⊢
        clear hb7 hv y0 y1 g6 hx6 hx7 hout HATR HCS HAT2
        go_wp2
        go_roundw
        case rel => exact ⟨j + 1, by omega, by go_num, (hwr.trans (hw7.mono hr5)).alloc (by omega) _⟩
        case measure => simp [intOf]; omega
      · obtain rfl : j = l.length := by omega
        obtain ⟨ad', x, hae, hab, hxj, e0, e1, e2, e3⟩ := reads_stp (HRD.out.below hwr5) (show l.length - 1 < l.length by omega)
        injection hae with hae
        subst hae
        rw [HLX.out] at hxj
        injection hxj with hxj
        subst hxj
        have hbr := hbo.below hwr (by omega)
        have o0 : wr.cell? ⟨w5.heap.size, 0, none⟩ = some (.bool ob) := hbr.cell 0
        have o1 : wr.cell? ⟨w5.heap.size, 1, none⟩ = some (.int .i64 on) := hbr.cell 1
        obtain ⟨f1, f2⟩ := out_parts HOB.out
        simp only at e0 e1 e2 e3
        rw [← f1] at e2
        rw [← f2] at e3
        have hn1 : (0 : Int) < (l.length : Int) := by omega
        have hwr1 : IntKind.i64.wrap ((l.length : Int) - 1) = ((l.length - 1 : Nat) : Int) := by
          rw [show ((l.length : Int) - 1) = ((l.length - 1 : Nat) : Int) by omega]
          exact wrap_i64 _ (by omega) (by omega)
        have hlt1 : ((l.length - 1 : Nat) : Int) < (l.length : Int) := by omega
        go_wp2_with fail
        refine wp_region_q (fun W => W = wr.drew) (by kernel_rfl) (by kernel_rfl) rfl ?_
        repeat
          (first | ((with_reducible apply QW.free rfl); · (intro W hW; subst hW; go_simp; first | rfl)) | ((with_reducible apply QW.skip rfl); · (first | exact ⟨_, _, rfl, rfl, .inl rfl⟩ | exact ⟨_, _, rfl, rfl, .inr rfl⟩)) | ((with_reducible apply QW.take rfl); (· exact ⟨_, rfl, rfl⟩); (· (intro W hW; subst hW; go_simp; first | rfl)))); (try simp only [Act.put, List.setIfInBounds_toArray, List.set_cons_zero, List.set_cons_succ])
        refine QW.nil ?_
        rintro W rfl
        go_wp2
        go_ret
        exact ⟨by simp, hww.drew⟩
end Go.Proofs.Ytapihikbdcplaaa
