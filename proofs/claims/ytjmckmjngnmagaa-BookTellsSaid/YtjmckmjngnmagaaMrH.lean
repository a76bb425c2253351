/- What mean.Run and pack.Run say alike; the walk of the law MeanSame. -/
import Derived.Test.YtjmckmjngnmagaaMrG
import Derived.Test.YtjmckmjngnmagaaMeQ
import Derived.Test.YtjmckmjngnmagaaPkO
namespace Go.Proofs.Ytjmckmjngnmagaa
open Go.RowKit Go.Maps

theorem look_lt : ∀ (e : Ex) (n d : Nat), 0 ≤ (lookN e n d).1 ∧ (lookN e n d).1 ≤ 5 := by
  intro e
  refine Ex.ind (P := fun e => ∀ (n d : Nat), 0 ≤ (lookN e n d).1 ∧ (lookN e n d).1 ≤ 5) ?_ e
  intro k a b c d t ks ih n dp
  rw [lookN]
  split
  · simp only; omega
  split
  · simp only; omega
  split
  · simp only; omega
  · have : ∀ (es : List Ex), (∀ e ∈ es, e ∈ ks) → ∀ n d, 0 ≤ (looks es n d).1 ∧ (looks es n d).1 ≤ 5 := by
      intro es
      induction es with
      | nil => intro _ n d; rw [looks]; simp only; omega
      | cons e es ihe =>
        intro hm n d
        rw [looks]
        split
        · exact ihe (fun x hx => hm x (by simp [hx])) _ _
        · exact ih e (hm e (by simp)) n d
    exact this ks (fun e he => he) _ _
theorem check_lt (g : List Rl) : 0 ≤ checkG g ∧ checkG g ≤ 7 := by
  have h1 : ∀ (l : List Rl) (i all : Nat), 0 ≤ (chk1 g l i all).1 ∧ (chk1 g l i all).1 ≤ 7 := by
    intro l
    induction l with
    | nil => intro i all; rw [chk1]; simp only; omega
    | cons r l ih =>
      intro i all
      rw [chk1]
      split
      · simp only; omega
      split
      · simp only; omega
      split
      · have := look_lt r.2 0 1
        simp only
        unfold checkE
        omega
      · exact ih _ _
  have h2 : ∀ (l : List Rl), 0 ≤ chk2 g l ∧ chk2 g l ≤ 7 := by
    intro l
    induction l with
    | nil => rw [chk2]; omega
    | cons r l ih =>
      rw [chk2]
      split
      · omega
      · exact ih
  unfold checkG
  split
  · omega
  split
  · omega
  split
  · exact h1 g 0 0
  split
  · omega
  · exact h2 g
theorem lookG_lt (g : List Rl) (s : ByteArray) : 0 ≤ lookG g s ∧ lookG g s ≤ 9 := by
  have h := check_lt g
  have hw : 0 ≤ (wellG g).2 ∧ (wellG g).2 ≤ 9 := by
    unfold wellG
    split
    · simp only; omega
    · split
      · simp only; omega
      · split <;> simp only <;> omega
  unfold lookG
  split
  · exact hw
  · split <;> omega

/-- step by step and with all remembered it is the same -/
theorem same_run {g : List Rl} (W : WellG g) {s : List UInt8} {n m : Nat} {r : Rl} {o o' : Option Nat} {σ1 : PS} (hr : g[0]? = some r) (he : ev g s n r.2 0 = some o) (hpk : pk g s false m (.rule 0) 0 ps0 = some (o', σ1)) : o' = o ∧ σ1.log.length ≤ cost g s n (.ex r.2) 0 := by
  cases m with
  | zero => cases hpk
  | succ m =>
    have H := fits_of W.right
    have hrt := W.right.rt r (List.mem_of_getElem? hr)
    simp only [pk] at hpk
    have h0 : recall ps0.seen (0, 0) = none := rfl
    rw [h0, hr] at hpk
    simp only at hpk
    cases hq : pk g s false m (.try_ r.2 (firstN g 0)) 0 ps0 with
    | none => rw [hq] at hpk; cases hpk
    | some x =>
      obtain ⟨u, σ2⟩ := x
      obtain ⟨rfl, _⟩ := pk_goes (hook := false) H hrt (Nat.zero_le _) he (agree0 g s) hq
      have hgt := grow_try (hook := false) (grows H n) hrt (Nat.zero_le _) he (agree0 g s) hq
      rw [hq] at hpk
      simp only at hpk
      split at hpk
      · cases hpk
      · simp only [Option.some.injEq, Prod.mk.injEq] at hpk
        obtain ⟨rfl, rfl⟩ := hpk
        refine ⟨rfl, ?_⟩
        have h1 : ps0.log.length = 0 := rfl
        simp only [List.length_append, List.length_cons, List.length_nil]
        omega

def starG : List Rl := [(nameA, ofN 7 [litE ⟨#[120]⟩])]
theorem star_look : lookG starG ⟨#[120, 120, 121]⟩ = 0 := by decide +kernel
theorem star_pk : (pk starG [120, 120, 121] false 20 (.rule 0) 0 ps0).map (·.1) = some (some 2) := by decide +kernel
theorem star_run {m : Nat} {o : Option Nat} {σ1 : PS} (h : pk starG [120, 120, 121] false m (.rule 0) 0 ps0 = some (o, σ1)) : o = some 2 := by
  have h2 := star_pk
  cases hx : pk starG [120, 120, 121] false 20 (.rule 0) 0 ps0 with
  | none => rw [hx] at h2; cases h2
  | some x =>
    obtain ⟨u, σ⟩ := x
    rw [hx] at h2
    simp only [Option.map_some, Option.some.injEq] at h2
    have e1 := pk_le h (Nat.le_max_left m 20)
    have e2 := pk_le hx (Nat.le_max_right m 20)
    rw [e1] at e2
    injection e2 with e2
    injection e2 with e2 e3
    rw [e2, h2]
theorem wf_lit (t : ByteArray) : WfE (litE t) := .mk _ _ _ _ _ _ _ (by unfold I64; omega) (by unfold U64; omega) (by unfold U64; omega) (by unfold U64; omega) (by unfold U64; omega) (fun e h => by cases h)
theorem wf_of {k : Int} (hk : I64 k) {ks : List Ex} (h : ∀ e ∈ ks, WfE e) : WfE (ofN k ks) := .mk _ _ _ _ _ _ _ hk (by unfold U64; omega) (by unfold U64; omega) (by unfold U64; omega) (by unfold U64; omega) h
theorem wf_g1 {e : Ex} (h : WfE e) : ∀ r ∈ [(nameA, e)], WfE r.2 := fun r hr => by simp only [List.mem_singleton] at hr; subst hr; exact h

set_option maxRecDepth 100000 in
set_option maxHeartbeats 8000000 in
theorem walk_MeanSame {g : List Rl} {A : Option Addr} {cp : Nat} {row : Nat → List Value} (s : ByteArray) (w : World) (h : GrIs w w.heap.size g A cp row) (hwf : ∀ r ∈ g, WfE r.2) :
    Calls Try.prog 6 #[.agg #[.slice A g.length cp], .string s] w fun e w' => e = .returned (.bool true) ∧ Below w.heap.size w w' := by
  have hso := run_same_out
  have hlit := lit_b ⟨#[120]⟩
  have hof := of_b
  have hone := fun (W : World) (b : Nat) (hb : Blk W b 35 (exCells 3 0 0 0 0 ⟨#[120]⟩ none 0 0).toArray) => one_b (ofN 7 [litE ⟨#[120]⟩]) _ W (ex_one (litE_is W _ (by decide)) hb (by simp) 7)
  obtain ⟨C, o, hC⟩ := costs g s
  have hmr := fun W (hW : Below w.heap.size w W) => mrun_any (h.grow hW) hwf s 1048576 hC
  have hpr := fun W (hW : Below w.heap.size w W) => run_any (h.grow hW) hwf s
  unfold exCells at hlit hof hone
  have HM := Lib.hid hmr
  have HP := Lib.hid hpr
  have HL := Lib.hid hlit
  have HF := Lib.hid hof
  have HO := Lib.hid hone
  have HC := Lib.hid hC
  clear hmr hpr hlit hof hone h hwf hC
  go_enter Try.func6, Try.ntmps6
  go_wp2_with fail
  refine (HL.out _).mono ?_
  rintro e w1 ⟨rfl, hb1⟩
  have hgx : Blk w1 w.heap.size 24 #[.slice A g.length cp] := (blk_at rfl).below hb1 (by simp)
  have hw1 : Below w.heap.size w w1 := ((Below.refl _ w).alloc (Nat.le_refl _) _).trans (hb1.mono (by simp))
  have hz1 := hw1.size
  have hgl1 := hgx.lt
  clear hb1
  go_wp2_with fail
  refine (HF.out _ _ _ _ _).mono ?_
  rintro e w2 ⟨rfl, hb2⟩
  have hk2 := Blk.below (blk_at (w := w1) (t := 35) rfl) hb2 (by simp)
  have hgx2 := (hgx.alloc _).below hb2 (by simp; omega)
  have hw2 : Below w.heap.size w w2 := (hw1.alloc hz1 _).trans (hb2.mono (by simp; omega))
  clear hb2 hgx hw1
  go_wp2_with fail
  refine (HO.out _ _ hk2).mono ?_
  rintro e w3 ⟨b, rfl, hG, hb3⟩
  have hgx3 := hgx2.below hb3 hgx2.lt
  have hw3 := hw2.trans (hb3.mono hw2.size)
  clear hb3 hgx2 hw2 hk2
  go_wp2_with fail
  refine (run_any hG (wf_g1 (wf_of (by unfold I64; omega) (fun e he => by simp only [List.mem_singleton] at he; subst he; exact wf_lit _))) ⟨#[120, 120, 121]⟩).mono ?_
  rintro e w4 ⟨hb4, hq⟩
  have hgx4 := hgx3.below hb4 hgx3.lt
  have hw4 := hw3.trans (hb4.mono hw3.size)
  have hz4 := hw4.size
  have hgl4 := hgx4.lt
  have g4 : w4.cell? ⟨w.heap.size, 0, none⟩ = some (.slice A g.length cp) := hgx4.cell 0
  rcases hq with ⟨hne, _⟩ | ⟨_, o', σ1, V, lc, l', ⟨m, hpk⟩, _, _, _, rfl, _⟩
  · exact absurd star_look hne
  obtain rfl := star_run hpk
  have hov : outV (some 2) = .agg #[.bool true, .int .i64 2] := rfl
  rw [hov]
  generalize σ1.log.length = ll
  clear hb4 hgx3 hw3 hG hpk hov
  go_wp2_with fail
  refine (HM.out _ (by repeat (first | exact Below.refl _ _ | assumption | refine Below.drew ?_ | refine below_drewN ?_ _ | refine Below.alloc ?_ (by first | omega | (simp; omega) | simp) _ | refine Below.setCell ?_ (by first | omega | (simp; omega) | simp) _))).mono ?_
  rintro e w5 ⟨v, n, x, hv, rfl, hb5⟩
  have hgx5 := (hgx4.alloc _).below hb5 (by simp; omega)
  have hw5 : Below w.heap.size w w5 := (hw4.alloc hz4 _).trans (hb5.mono (by simp; omega))
  have hz5 := hw5.size
  have hgl5 := hgx5.lt
  have g5 : w5.cell? ⟨w.heap.size, 0, none⟩ = some (.slice A g.length cp) := hgx5.cell 0
  rw [outV_eq]
  clear hb5 hgx4 hw4 g4
  go_wp2_with fail
  refine (HP.out _ (by repeat (first | exact Below.refl _ _ | assumption | refine Below.drew ?_ | refine below_drewN ?_ _ | refine Below.alloc ?_ (by first | omega | (simp; omega) | simp) _ | refine Below.setCell ?_ (by first | omega | (simp; omega) | simp) _))).mono ?_
  rintro e w6 ⟨hb6, hq⟩
  have hx6 : Blk w6 w5.heap.size 47 #[.bool v.isSome, .int .i64 (v.getD 0 : Nat)] := (blk_at rfl).below hb6 (by simp)
  have hw6 : Below w.heap.size w w6 := (hw5.alloc hz5 _).trans (hb6.mono (by simp; omega))
  have hz6 := hw6.size
  have hxl := hx6.lt
  have y0 : w6.cell? ⟨w5.heap.size, 0, none⟩ = some (.bool v.isSome) := hx6.cell 0
  have y1 : w6.cell? ⟨w5.heap.size, 1, none⟩ = some (.int .i64 (v.getD 0 : Nat)) := hx6.cell 1
  clear hb6
  have hlt := lookG_lt g s
  rcases hq with ⟨hne, rfl⟩ | ⟨hl0, o2, σ2, V2, lc2, l2', ⟨m2, hpk2⟩, ha2, ht2, he2, rfl, ho2⟩
  · have hvv : v = none ∧ n = 0 ∧ x = lookG g s := by
      rcases hv with ⟨_, h1, h2, h3⟩ | ⟨h1, _⟩ | ⟨h1, _⟩ | ⟨h1, _⟩
      · exact ⟨h1, h2, h3⟩
      · exact absurd h1 hne
      · exact absurd h1 hne
      · exact absurd h1 hne
    obtain ⟨rfl, rfl, rfl⟩ := hvv
    rw [outV_eq]
    have h10 : (lookG g s == 10) = false := by rw [beq_eq_false_iff_ne]; omega
    have h0 : (lookG g s != 0) = true := by rw [bne_iff_ne]; exact hne
    clear hv hlt hne
    generalize lookG g s = x at h10 h0
    go_wp2
    go_ret
    exact ⟨by simp, (by repeat (first | exact Below.refl _ _ | assumption | refine Below.drew ?_ | refine below_drewN ?_ _ | refine Below.alloc ?_ (by first | omega | (simp; omega) | simp) _ | refine Below.setCell ?_ (by first | omega | (simp; omega) | simp) _))⟩
  · clear ha2 ht2 he2 ho2
    obtain ⟨W, h60⟩ := look_zero hl0
    obtain ⟨nn, r, hr, hev, hcost⟩ := HC.out hl0
    obtain ⟨rfl, hll⟩ := same_run W hr hev hpk2
    rw [← hcost] at hll
    rcases hv with ⟨h1, _⟩ | ⟨_, h1, _⟩ | ⟨_, _, _, _, h1, h2, h3⟩ | ⟨_, h1, h2, h3, h4, h5⟩
    · exact absurd hl0 h1
    · omega
    · subst h1 h2 h3
      rw [outV_eq]
      go_wp2
      go_ret
      exact ⟨rfl, (by repeat (first | exact Below.refl _ _ | assumption | refine Below.drew ?_ | refine below_drewN ?_ _ | refine Below.alloc ?_ (by first | omega | (simp; omega) | simp) _ | refine Below.setCell ?_ (by first | omega | (simp; omega) | simp) _))⟩
    · subst h3 h4 h5
      have HLL := Lib.hid hll
      rw [outV_eq]
      generalize v.isSome = vb at y0 ⊢
      generalize ((v.getD 0 : Nat) : Int) = vn at y1 ⊢
      clear hll hcost hev hr W hpk2
      go_wp2
      go_ret
      exact ⟨by simp [HLL.out], (by repeat (first | exact Below.refl _ _ | assumption | refine Below.drew ?_ | refine below_drewN ?_ _ | refine Below.alloc ?_ (by first | omega | (simp; omega) | simp) _ | refine Below.setCell ?_ (by first | omega | (simp; omega) | simp) _))⟩
end Go.Proofs.Ytjmckmjngnmagaa
