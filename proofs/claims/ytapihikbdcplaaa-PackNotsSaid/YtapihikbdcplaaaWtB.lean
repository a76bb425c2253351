/- The walk of the law WellTold. -/
import Derived.Test.YtapihikbdcplaaaPlB
import Derived.Test.YtapihikbdcplaaaEqF
namespace Go.Proofs.Ytapihikbdcplaaa
open Go.RowKit Go.Maps

theorem told_check : checkG [(nameA, litE ⟨#[120]⟩)] = 0 := by decide +kernel
theorem told_facts : factsG [(nameA, litE ⟨#[120]⟩)] = [⟨false, true, true⟩] := by decide +kernel
theorem reads_onef {w : World} {b : Nat} (h : Blk w b 58 #[.bool false, .bool true, .bool true]) : Reads w w.heap.size 3 (some ⟨b, 0, none⟩) 1 (facs [⟨false, true, true⟩]) := by
  have h' : FacB w b [⟨false, true, true⟩] := h
  exact h'.reads h.lt
/-- the facts of a rule tell its outcome -/
theorem told_rule {g : List Rl} (W : WellG g) {s : List UInt8} {j q : Nat} {r : Rl} {o : Option Nat} (hr : g[j]? = some r) (hq : q ≤ s.length) (h : Sem g s r.2 q o) : ∃ x : Fa, (factsG g)[j]? = some x ∧ ((o = none ∧ x.f = true) ∨ (o.map (· - q) = some 0 ∧ x.e = true) ∨ (∃ k : Nat, o.map (· - q) = some (k + 1) ∧ x.a = true)) := by
  have H := fits_of W.right
  obtain ⟨n, hn⟩ := h
  have ht := (told H n).1 r.2 q o (W.right.rt r (List.mem_of_getElem? hr)) hq hn
  refine ⟨_, H.fix j r hr, ?_⟩
  cases o with
  | none => exact .inl ⟨rfl, ht⟩
  | some t =>
    obtain ⟨h1, h2, h3, h4⟩ := ht
    by_cases he : t = q
    · subst he
      exact .inr (.inl ⟨by simp, h3 rfl⟩)
    · exact .inr (.inr ⟨t - q - 1, by simp; omega, h4 (by omega)⟩)

theorem run_nout (w : World) : (Instr.build 60 #[]).run Try.prog w = .ok (.agg #[.bool false, .int .i64 0]) w := by kernel_rfl
theorem out_parts {v : Option Nat} {b : Bool} {n : Int} (h : outV v = .agg #[.bool b, .int .i64 n]) : b = v.isSome ∧ n = (v.getD 0 : Nat) := by
  cases v <;> (simp [outV] at h; obtain ⟨h1, h2⟩ := h; subst h1 h2; simp)
set_option maxRecDepth 100000 in
set_option maxHeartbeats 8000000 in
theorem walk_WellTold {g : List Rl} {A : Option Addr} {cp : Nat} {row : Nat → List Value} (s : ByteArray) (i p : Int) (w : World) (h : GrIs w w.heap.size g A cp row) (hwf : ∀ r ∈ g, WfE r.2) :
    Calls Try.prog 13 #[.agg #[.slice A g.length cp], .string s, .int .i64 i, .int .i64 p] w fun e w' => e = .returned (.bool true) ∧ Below w.heap.size w w' := by
  have hso := run_same_out
  have hlit := lit_b ⟨#[120]⟩
  have hone := fun W => one_b (litE ⟨#[120]⟩) _ W (litE_is W ⟨#[120]⟩ (by decide))
  unfold exCells at hlit hone
  have hata := fun W (hW : Below w.heap.size w W) => at_any (h.grow hW) hwf i s p
  have hfa := fun W (hW : Below w.heap.size w W) => wfacts_any (h.grow hW)
  have HAA := Lib.hid hata
  have HFA := Lib.hid hfa
  have HL := Lib.hid hlit
  have HO := Lib.hid hone
  clear hata hfa hlit hone h hwf
  go_enter Try.func13, Try.ntmps13
  go_wp2_with fail
  refine (HL.out _).mono ?_
  rintro e w1 ⟨rfl, hb1⟩
  have hgx : Blk w1 w.heap.size 24 #[.slice A g.length cp] := (blk_at rfl).below hb1 (by simp)
  have hw1 : Below w.heap.size w w1 := ((Below.refl _ w).alloc (Nat.le_refl _) _).trans (hb1.mono (by simp))
  clear hb1
  go_wp2_with fail
  refine (HO.out _).mono ?_
  rintro e w2 ⟨b, rfl, hG, hb2⟩
  have hgx2 := hgx.below hb2 hgx.lt
  have hw2 := hw1.trans (hb2.mono hw1.size)
  clear hb2 hgx hw1
  go_wp2_with fail
  refine (wfacts_any hG).mono ?_
  rintro e w3 ⟨hb3, hf⟩
  rcases hf with ⟨hc, _⟩ | ⟨_, b3, rfl, hfb, _⟩
  · exact absurd told_check hc
  rw [told_facts] at hfb
  have hgx3 := hgx2.below hb3 hgx2.lt
  have hw3 := hw2.trans (hb3.mono hw2.size)
  have hz3 := hw3.size
  have hgl := hgx3.lt
  have heq := fun (W : World) (hW : Blk W b3 58 #[.bool false, .bool true, .bool true]) (b' : Nat) (hb' : Blk W b' 58 #[.bool false, .bool true, .bool true]) => equalF_any _ _ 1 1 1 1 _ _ _ _ W (reads_onef hW) (reads_onef hb') (by omega) rfl rfl
  have hfb' : Blk w3 b3 58 #[.bool false, .bool true, .bool true] := hfb
  have HE := Lib.hid heq
  clear hb3 hgx2 hw2 hG heq hfb
  go_wp2_with fail
  refine (HE.out _ (hfb'.alloc _) _ (blk_at rfl)).mono ?_
  rintro e w4 ⟨rfl, d, rfl⟩
  have hw4 : Below w.heap.size w ((w3.alloc (.cells #[.bool false, .bool true, .bool true] 58)).drewN d) := (by repeat (first | exact Below.refl _ _ | assumption | refine Below.drew ?_ | refine below_drewN ?_ _ | refine Below.alloc ?_ (by first | omega | (simp; omega) | simp) _ | refine Below.setCell ?_ (by first | omega | (simp; omega) | simp) _))
  have hgx4 := (hgx3.alloc (.cells #[.bool false, .bool true, .bool true] 58)).drewN d
  generalize (w3.alloc (.cells #[.bool false, .bool true, .bool true] 58)).drewN d = w4 at hw4 hgx4
  have g0 : w4.cell? ⟨w.heap.size, 0, none⟩ = some (.slice A g.length cp) := hgx4.cell 0
  have hz4 := hw4.size
  have hgl4 := hgx4.lt
  clear hgx3 hw3 hz3 hgl HE hfb'
  go_wp2_with fail
  refine (HAA.out _ hw4).mono ?_
  rintro e w5 ⟨v, x, hv, rfl, hb5⟩
  have hgx5 := hgx4.below hb5 hgl4
  have hw5 := hw4.trans (hb5.mono hz4)
  have g5 : w5.cell? ⟨w.heap.size, 0, none⟩ = some (.slice A g.length cp) := hgx5.cell 0
  have hz5 := hw5.size
  have hgl5 := hgx5.lt
  clear hb5 g0
  have hv2 : (x ≠ 0 ∧ v = none) ∨ (x = 0 ∧ ∃ (j q : Nat) (r : Rl) (o : Option Nat), lookG g s = 0 ∧ i = j ∧ p = q ∧ q ≤ s.size ∧ g[j]? = some r ∧ Sem g s.data.toList r.2 q o ∧ v = o.map (· - q)) := by
    rcases hv with ⟨h1, h2, h3⟩ | ⟨_, _, h2, h3⟩ | ⟨h1, j, q, r, o, h2, h3, h4, h5, h6, h7, h8⟩
    · exact .inl ⟨by rw [h3]; exact h1, h2⟩
    · exact .inl ⟨by omega, h2⟩
    · exact .inr ⟨h8, j, q, r, o, h1, h2, h3, h4, h5, h6, h7⟩
  clear hv
  rcases hv2 with ⟨hx, rfl⟩ | ⟨rfl, j, q, r, o, hl0, rfl, rfl, hq, hr, hsem, rfl⟩
  · have hxb : (x != 0) = true := by rw [bne_iff_ne]; exact hx
    have hov : outV none = .agg #[.bool false, .int .i64 0] := rfl
    rw [hov]
    have hrn := run_nout
    clear hx
    go_wp2
    go_ret
    exact ⟨rfl, (by repeat (first | exact Below.refl _ _ | assumption | refine Below.drew ?_ | refine below_drewN ?_ _ | refine Below.alloc ?_ (by first | omega | (simp; omega) | simp) _ | refine Below.setCell ?_ (by first | omega | (simp; omega) | simp) _))⟩
  · obtain ⟨W, h60⟩ := look_zero hl0
    have hjl := getElem?_lt hr
    obtain ⟨y, hy, hcase⟩ := told_rule W hr (by rw [size_list]; exact hq) hsem
    have h10 := W.right.ten
    obtain ⟨ob, on, hobn⟩ : ∃ (ob : Bool) (on : Int), outV (o.map (· - q)) = .agg #[.bool ob, .int .i64 on] := ⟨_, _, outV_eq _⟩
    rw [hobn]
    have hcc : checkG g = 0 := by
      have := hl0
      unfold lookG at this
      split at this
      · rename_i hc; exact absurd this hc
      · rename_i hc
        unfold wellG at hc
        by_cases h0 : checkG g = 0
        · exact h0
        · rw [if_pos h0] at hc
          exact absurd h0 (by simpa using hc)
    have HCC := Lib.hid hcc
    have HY := Lib.hid hy
    have hcase3 : (ob = false ∧ y.f = true) ∨ (ob = true ∧ on = 0 ∧ y.e = true) ∨ (ob = true ∧ 0 < on ∧ y.a = true) := by
      obtain ⟨e1, e2⟩ := out_parts hobn
      rcases hcase with ⟨h1, h2⟩ | ⟨h1, h2⟩ | ⟨k, h1, h2⟩
      · subst h1
        exact .inl ⟨e1, h2⟩
      · rw [h1] at e1 e2
        exact .inr (.inl ⟨e1, e2, h2⟩)
      · rw [h1] at e1 e2
        exact .inr (.inr ⟨e1, by rw [e2]; simp, h2⟩)
    clear hcase hobn hy hcc hsem hr hl0 W
    go_wp2_with fail
    refine (HFA.out _ (by repeat (first | exact Below.refl _ _ | assumption | refine Below.drew ?_ | refine below_drewN ?_ _ | refine Below.alloc ?_ (by first | omega | (simp; omega) | simp) _ | refine Below.setCell ?_ (by first | omega | (simp; omega) | simp) _))).mono ?_
    rintro e w6 ⟨hb6, hf⟩
    rcases hf with ⟨hc, _⟩ | ⟨_, b6, rfl, hfb, _⟩
    · exact absurd HCC.out hc
    have hox : Blk w6 w5.heap.size 60 #[.bool ob, .int .i64 on] := (blk_at rfl).below hb6 (by simp)
    have hgx6 := (hgx5.alloc _).below hb6 (by simp; omega)
    have hw6 : Below w.heap.size w w6 := (hw5.alloc hz5 _).trans (hb6.mono (by simp; omega))
    obtain ⟨f0, f1, f2⟩ := hfb.cells HY.out
    have g6 : w6.cell? ⟨w.heap.size, 0, none⟩ = some (.slice A g.length cp) := hgx6.cell 0
    have o0 : w6.cell? ⟨w5.heap.size, 0, none⟩ = some (.bool ob) := hox.cell 0
    have o1 : w6.cell? ⟨w5.heap.size, 1, none⟩ = some (.int .i64 on) := hox.cell 1
    have hz6 := hw6.size
    have hgl6 := hgx6.lt
    have hol := hox.lt
    have hbl := hfb
    have hfl : b6 < w6.heap.size := Blk.lt hfb
    have hj1 : (j : Int) < (g.length : Int) := by omega
    have hne : ((g.length : Int) != (g.length : Int)) = false := by simp
    clear hb6 hfb hbl HY HCC g5
    obtain ⟨ye, ya, yf⟩ := y
    simp only at f0 f1 f2 hcase3
    rcases hcase3 with ⟨rfl, rfl⟩ | ⟨rfl, rfl, rfl⟩ | ⟨rfl, h0n, rfl⟩
    all_goals
      go_wp2
      go_ret
      exact ⟨rfl, (by repeat (first | exact Below.refl _ _ | assumption | refine Below.drew ?_ | refine below_drewN ?_ _ | refine Below.alloc ?_ (by first | omega | (simp; omega) | simp) _ | refine Below.setCell ?_ (by first | omega | (simp; omega) | simp) _))⟩
end Go.Proofs.Ytapihikbdcplaaa
