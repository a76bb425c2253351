/- The walk of the law FirstFacts. -/
import Derived.Test.YtjmckmjngnmagaaFiC
import Derived.Test.YtjmckmjngnmagaaMrH
namespace Go.Proofs.Ytjmckmjngnmagaa
open Go.RowKit Go.Maps

def notG : List Rl := [(nameA, ofN 11 [litE ⟨#[120]⟩])]
theorem not_check : checkG notG = 0 := by decide +kernel
theorem not_first : firG notG = [B4.no] := by decide +kernel
theorem same_b4n (w : World) (x : B4) : (Op.equalIn 10000 32 (.agg #[.int .u64 x.s4.a, .int .u64 x.s4.b, .int .u64 x.s4.c, .int .u64 x.s4.d]) (.agg #[.int .u64 0, .int .u64 0, .int .u64 0, .int .u64 0])).run Try.prog w = .ok (decide (x = B4.no)) w := same_b4 w x B4.no
theorem reads_one {w : World} {b : Nat} {x : B4} (h : SetBk w b [x]) : Reads w w.heap.size 4 (some ⟨b, 0, none⟩) 1 (setC [x]) := SetBk.reads h (Blk.lt h)

set_option maxRecDepth 100000 in
set_option maxHeartbeats 8000000 in
theorem walk_FirstFacts {g : List Rl} {A : Option Addr} {cp : Nat} {row : Nat → List Value} (w : World) (h : GrIs w w.heap.size g A cp row) (hwf : ∀ r ∈ g, WfE r.2) :
    Calls Try.prog 3 #[.agg #[.slice A g.length cp]] w fun e w' => e = .returned (.bool true) ∧ Below w.heap.size w w' := by
  have hlit := lit_b ⟨#[120]⟩
  have hof := of_b
  have hone := fun (W : World) (b : Nat) (hb : Blk W b 35 (exCells 3 0 0 0 0 ⟨#[120]⟩ none 0 0).toArray) => one_b (ofN 11 [litE ⟨#[120]⟩]) _ W (ex_one (litE_is W _ (by decide)) hb (by simp) 11)
  have hfi := fun W (hW : Below w.heap.size w W) => first_any (h.grow hW) hwf
  have hfa := fun W (hW : Below w.heap.size w W) => wfacts_any (h.grow hW)
  have hff : checkG g = 0 → g.length ≤ 10 ∧ ∀ (i : Nat) (x : Fa), (factsG g)[i]? = some x → x.a = true → ∃ y, (firG g)[i]? = some y ∧ y ≠ B4.no := fun h0 => ⟨(right_of h0).ten, facts_first (right_of h0) hwf⟩
  unfold exCells at hlit hof hone
  have HFI := Lib.hid hfi
  have HFA := Lib.hid hfa
  have HFF := Lib.hid hff
  have HL := Lib.hid hlit
  have HF := Lib.hid hof
  have HO := Lib.hid hone
  clear hfi hfa hff hlit hof hone h hwf
  go_enter Try.func3, Try.ntmps3
  go_wp2_with fail
  refine (HL.out _).mono ?_
  rintro e w1 ⟨rfl, hb1⟩
  have hgx : Blk w1 w.heap.size 24 #[.slice A g.length cp] := (blk_at rfl).below hb1 (by simp)
  have hw1 : Below w.heap.size w w1 := ((Below.refl _ w).alloc (Nat.le_refl _) _).trans (hb1.mono (by simp))
  have hz1 := hw1.size
  have hgl1 := hgx.lt
  clear hb1
  go_wp2_with fail
  refine (HF.out _ _ _ _ _).mono ?_
  rintro e w2 ⟨rfl, hb2⟩
  have hk2 := Blk.below (blk_at (w := w1) (t := 35) rfl) hb2 (by simp)
  have hgx2 := (hgx.alloc _).below hb2 (by simp; omega)
  have hw2 : Below w.heap.size w w2 := (hw1.alloc hz1 _).trans (hb2.mono (by simp; omega))
  clear hb2 hgx hw1
  go_wp2_with fail
  refine (HO.out _ _ hk2).mono ?_
  rintro e w3 ⟨b, rfl, hG, hb3⟩
  have hgx3 := hgx2.below hb3 hgx2.lt
  have hw3 := hw2.trans (hb3.mono hw2.size)
  clear hb3 hgx2 hw2 hk2
  go_wp2_with fail
  refine (first_any hG (wf_g1 (wf_of (by unfold I64; omega) (fun e he => by simp only [List.mem_singleton] at he; subst he; exact wf_lit _)))).mono ?_
  rintro e w4 ⟨hb4, hq⟩
  rcases hq with ⟨hc, _⟩ | ⟨_, b4, rfl, hs4⟩
  · exact absurd not_check hc
  have hs4' : SetBk w4 b4 [B4.no] := by have := not_first; unfold notG at this; rw [this] at hs4; exact hs4
  have hgx4 := hgx3.below hb4 hgx3.lt
  have hw4 := hw3.trans (hb4.mono hw3.size)
  have hz4 := hw4.size
  have hgl4 := hgx4.lt
  have hbl4 : b4 < w4.heap.size := Blk.lt hs4'
  have hrn := run_noset
  have heq := fun (W : World) (h1 : SetBk W b4 [B4.no]) (b' : Nat) (h2 : Blk W b' 32 #[.int .u64 0, .int .u64 0, .int .u64 0, .int .u64 0]) => equalS_any _ _ 1 1 1 1 _ _ _ _ W (reads_one h1) (reads_one (show SetBk W b' [B4.no] from h2)) (by omega) rfl rfl
  have HE := Lib.hid heq
  clear hb4 hgx3 hw3 hG heq hs4
  go_wp2_with fail
  refine (HE.out _ (Blk.alloc hs4' _) _ (blk_at rfl)).mono ?_
  rintro e w5 ⟨rfl, d, rfl⟩
  have hw5 : Below w.heap.size w ((w4.alloc (.cells #[.int .u64 0, .int .u64 0, .int .u64 0, .int .u64 0] 32)).drewN d) := (by repeat (first | exact Below.refl _ _ | assumption | refine Below.drew ?_ | refine below_drewN ?_ _ | refine Below.alloc ?_ (by first | omega | (simp; omega) | simp) _ | refine Below.setCell ?_ (by first | omega | (simp; omega) | simp) _))
  have hgx5 := (hgx4.alloc (.cells #[.int .u64 0, .int .u64 0, .int .u64 0, .int .u64 0] 32)).drewN d
  generalize ((w4.alloc (.cells #[.int .u64 0, .int .u64 0, .int .u64 0, .int .u64 0] 32)).drewN d) = w5 at hw5 hgx5 ⊢
  have g5 : w5.cell? ⟨w.heap.size, 0, none⟩ = some (.slice A g.length cp) := hgx5.cell 0
  have hz5 := hw5.size
  have hgl5 := hgx5.lt
  clear hgx4 hw4 hz4 hgl4 hbl4 HE hs4'
  go_wp2_with fail
  refine (HFI.out _ hw5).mono ?_
  rintro e w6 ⟨hb6, hq6⟩
  have hgx6 := hgx5.below hb6 hgl5
  have hw6 := hw5.trans (hb6.mono hz5)
  have g6 : w6.cell? ⟨w.heap.size, 0, none⟩ = some (.slice A g.length cp) := hgx6.cell 0
  have hz6 := hw6.size
  clear hb6 hgx5 hw5 g5
  rcases hq6 with ⟨hc, rfl⟩ | ⟨h0, sb, rfl, hsb⟩
  · go_wp2_with fail
    refine (HFA.out _ hw6).mono ?_
    rintro e w7 ⟨hb7, hq7⟩
    rcases hq7 with ⟨_, rfl⟩ | ⟨h0, _⟩
    · have hw7 := hw6.trans (hb7.mono hz6)
      have hxx : (checkG g != checkG g) = false := by simp
      clear hb7 hw6 hc
      generalize checkG g = x
      go_wp2
      go_loopw [49] (fun i wr => i = .int .i64 0 ∧ Below w.heap.size w wr) (fun _ _ => 0)
      case atStart => exact ⟨rfl, hw7⟩
      case round =>
        obtain ⟨rfl, hwr⟩ := hrel
        go_wp2
        go_ret
        exact ⟨rfl, hwr⟩
    · exact absurd h0 hc
  · obtain ⟨h10, hff⟩ := HFF.out h0
    have hfl := facts_len g
    have hkl := firG_len g
    go_wp2_with fail
    refine (HFA.out _ hw6).mono ?_
    rintro e w7 ⟨hb7, hq7⟩
    rcases hq7 with ⟨hc, _⟩ | ⟨_, fb, rfl, hfb, _⟩
    · exact absurd h0 hc
    have hw7 := hw6.trans (hb7.mono hz6)
    have hsb7 : SetBk w7 sb (firG g) := Blk.below hsb hb7 (Blk.lt hsb)
    have hll : ((g.length : Int) != (g.length : Int)) = false := by simp
    have HH := Lib.hid hff
    have HFL := Lib.hid hfl
    have HKL := Lib.hid hkl
    clear hb7 hw6 hsb hgx6 g6 hff hfl hkl h0
    go_wp2
    go_loopw [49] (fun i wr => ∃ j : Nat, j ≤ g.length ∧ i = .int .i64 j ∧ FacB wr fb (factsG g) ∧ SetBk wr sb (firG g) ∧ Below w.heap.size w wr) (fun i _ => g.length - (intOf i).toNat)
    case atStart => exact ⟨0, by omega, rfl, hfb, hsb7, hw7⟩
    case round =>
      clear hfb hsb7 hw7
      obtain ⟨j, hj, rfl, hfb, hsb, hwr⟩ := hrel
      by_cases hjn : j < g.length
      · have hx : (factsG g)[j]? = some ((factsG g)[j]'(by rw [HFL.out]; exact hjn)) := List.getElem?_eq_getElem _
        generalize (factsG g)[j]'(by rw [HFL.out]; exact hjn) = x at hx
        have hy : (firG g)[j]? = some ((firG g)[j]'(by rw [HKL.out]; exact hjn)) := List.getElem?_eq_getElem _
        generalize (firG g)[j]'(by rw [HKL.out]; exact hjn) = y at hy
        have hxy : x.a = true → y ≠ B4.no := fun ha => by
          obtain ⟨y', h1, h2⟩ := HH.out j x hx ha
          rw [hy] at h1
          injection h1 with h1
          rw [h1]; exact h2
        obtain ⟨f0, f1, f2⟩ := hfb.cells hx
        obtain ⟨s0, s1, s2, s3⟩ := hsb.cells hy
        have hq := fun w => same_b4n w y
        have hfbl := Blk.lt hfb
        have hsbl := Blk.lt hsb
        have HFB := Lib.hid hfb
        have HSB := Lib.hid hsb
        clear hx hy hfb hsb
        cases hxa : x.a with
        | true =>
          rw [hxa] at f1
          have hne := hxy hxa
          simp only [hne, decide_false] at hq
          clear hxy hne hxa
          go_wp2
          go_roundw
          case rel => exact ⟨j + 1, by omega, by go_num, HFB.out, HSB.out, hwr⟩
          case measure => simp [intOf]; omega
        | false =>
          rw [hxa] at f1
          clear hxy hxa
          go_wp2
          go_roundw
          case rel => exact ⟨j + 1, by omega, by go_num, HFB.out, HSB.out, hwr⟩
          case measure => simp [intOf]; omega
      · obtain rfl : j = g.length := by omega
        go_wp2
        go_ret
        exact ⟨rfl, hwr⟩
end Go.Proofs.Ytjmckmjngnmagaa
