/- The walk of the law EventOwn. -/
import Derived.Test.YtphfckihdhmhpaaTrF
import Derived.Test.YtphfckihdhmhpaaEvR
import Derived.Test.YtphfckihdhmhpaaTtA
namespace Go.Proofs.Ytphfckihdhmhpaa
open Go.RowKit

theorem tr64_all : ∀ ks : List Tr, (∀ t ∈ ks, tr64 t) → tr64All ks
  | [], _ => by rw [tr64All]; trivial
  | t :: ts, h => by rw [tr64All]; exact ⟨h t (by simp), tr64_all ts fun x hx => h x (by simp [hx])⟩
theorem evsAll_mem : ∀ (ks : List Tr) (t : Tr), t ∈ ks → ∀ v ∈ evs t, v ∈ evsAll ks
  | t' :: ts, t, h, v, hv => by
    rw [evsAll, List.mem_append]
    rcases List.mem_cons.1 h with rfl | h
    · exact .inl hv
    · exact .inr (evsAll_mem ts t h v hv)
theorem tr64_of (t : Tr) : (∀ v ∈ evs t, I64 v.2.1 ∧ I64 v.2.2) → tr64 t := by
  refine Tr.ind (P := fun t => (∀ v ∈ evs t, I64 v.2.1 ∧ I64 v.2.2) → tr64 t) ?_ t
  intro r f u ks ih h
  rw [tr64]
  rw [evs] at h
  have h1 := h (1, r, f) (by simp)
  have h2 := h (2, r, u) (by simp)
  exact ⟨h1.1, h1.2, h2.2, tr64_all ks fun t ht => ih t ht fun v hv => h v (by
    have := evsAll_mem ks t ht v hv
    simp [this])⟩
/-- what Build answers, put together -/
theorem built_tree {l : List Ev} {w w' : World} {e : Ending} (h : BuildQ l w e w') (hl : ∀ v ∈ l, I64 v.2.1 ∧ I64 v.2.2) (hn : l.length ≤ 1048576) :
    ∃ T tc z, e = .returned (.tuple #[.agg tc.toArray, .int .i64 z]) ∧ (z = 0 ∨ z = 3) ∧ TrIs w' (fun b => w.heap.size ≤ b ∧ b < w'.heap.size) T tc ∧ tr64 T ∧ trNodes T ≤ 1048576 ∧ Below w.heap.size w w' := by
  obtain ⟨⟨tc, h⟩, hb⟩ := h
  rcases h with ⟨t, ht, rfl, hT⟩ | ⟨-, rfl⟩
  · have hs : l = evs t := bld_sound l [] t ht
    refine ⟨t, tc, 0, rfl, .inl rfl, hT, tr64_of t (by rw [← hs]; exact hl), ?_, hb⟩
    have := evs_len t
    rw [← hs] at this
    omega
  · refine ⟨.mk 0 0 0 [], _, 3, rfl, .inr rfl, .mk 0 0 0 [] none 0 (fun _ => []) (Nat.le_refl _) (by unfold maxLen; omega) (fun h => by simp at h) (fun i t h => by simp at h) (fun i t ad h => by simp at h), ?_, by rw [trNodes, trAll]; omega, hb⟩
    refine tr64_of _ fun v hv => ?_
    simp [evs, evsAll] at hv
    rcases hv with rfl | rfl <;> (unfold I64; decide)

theorem gb_below {a w w' : World} {g : Nat} {B : Nat} (h : Below B a w) (hg : w.grownBy w' (some g)) (hB : B ≤ w.heap.size) (hgB : B ≤ g) : Below B a w' :=
  ⟨hg.os.trans h.os, hg.tape.trans h.tape, hg.output.trans h.output, Nat.le_trans h.size hg.size, fun k hk => (hg.block k (by omega) (fun e => by injection e with e; omega)).trans (h.block k hk)⟩

set_option maxHeartbeats 8000000 in
set_option maxRecDepth 100000 in
theorem walk_EventOwn (A : Option Addr) (n c : Nat) (l : List Ev) (w : World) (hr : Reads w w.heap.size 3 A n (evCells l)) (hl : ∀ v ∈ l, I64 v.2.1 ∧ I64 v.2.2) (hA : A = none → c = 0) (hn : n ≤ 1048576) :
    Calls Try.prog 10 #[.slice A n c] w fun e w' => e = .returned (.bool true) ∧ Below w.heap.size w w' := by
  have hL := hr.ev_len
  have HRO := Lib.hid (roomyV_any A n c (evCells l) w.heap.size w hr (evCells_one l) (Nat.le_refl _) hA (by omega))
  go_enter Try.func10, Try.ntmps10
  go_wp2_with fail
  refine (HRO.out).mono ?_
  rintro e w1 ⟨g, cs, rfl, hg, hbg, hcs, hb1⟩
  have hgl := hbg.lt
  have hsz : cs.size = (n + 3) * 3 := by
    have := congrArg List.length hcs
    rw [Array.length_toList, List.length_append, evCells_len, marksV_len, hL] at this
    omega
  have hcell : ∀ k u, (evCells l ++ marksV 3)[k]? = some u → w1.cell? ⟨g, k, none⟩ = some u := fun k u hu => by
    rw [hbg.cell k, ← Array.getElem?_toList, hcs]
    exact hu
  have hrg : Reads w1 w1.heap.size 3 (some ⟨g, 0, none⟩) n (evCells l) := ⟨by rw [evCells_len, hL], fun _ => ⟨_, rfl, hgl, fun k u hu => by
    rw [cell_at0, Nat.zero_add]
    exact hcell k u (by rw [List.getElem?_append_left (getElem?_lt hu)]; exact hu)⟩⟩
  have hm0 : w1.cell? ⟨g, n * 3, none⟩ = some (.int .i64 9) := hcell _ _ (by rw [List.getElem?_append_right (by rw [evCells_len, hL]; omega), evCells_len, hL, Nat.sub_self]; rfl)
  have hm1 : w1.cell? ⟨g, n * 3 + 1, none⟩ = some (.int .i64 0) := hcell _ _ (by rw [List.getElem?_append_right (by rw [evCells_len, hL]; omega), evCells_len, hL, Nat.add_sub_cancel_left]; rfl)
  have hm2 : w1.cell? ⟨g, n * 3 + 2, none⟩ = some (.int .i64 0) := hcell _ _ (by rw [List.getElem?_append_right (by rw [evCells_len, hL]; omega), evCells_len, hL, Nat.add_sub_cancel_left]; rfl)
  have HBU := Lib.hid (build_any (some ⟨g, 0, none⟩) n (n + 3) l w1.heap.size w1 hrg (Nat.le_refl _) (by omega))
  have h1z := hb1.size
  have HBG := Lib.hid hbg
  have hdl : decide (l = l) = true := by simp
  have HEQ : Hid (∀ W : World, Below w1.heap.size w1 W → Below w.heap.size w W → Calls Try.prog 40 #[.slice (some ⟨g, 0, none⟩) n (n + 3), .slice A n c] W fun e w' => e = .returned (.bool true) ∧ ∃ d, w' = W.drewN d) := fun W h1 h2 => by
    have := equalE_any (some ⟨g, 0, none⟩) A n (n + 3) n c l l w1.heap.size w.heap.size W (hrg.below h1) (hr.below h2) (by unfold Small; omega)
    rwa [hdl] at this
  have hev := fun W => run_same_ev W 9 0 0 9 0 0
  have HM0 := Lib.hid hm0
  have HM1 := Lib.hid hm1
  have HM2 := Lib.hid hm2
  have HRL := Lib.hid hr
  have HLL := Lib.hid hl
  clear hcell hbg hcs HRO hdl hm0 hm1 hm2 hrg hr
  go_wp2_with fail
  refine (HBU.out).mono ?_
  intro e w2 hq
  obtain ⟨T, tc, z, rfl, hz, hT, hT64, hTn, hb2⟩ := built_tree hq hl (by rw [hL]; exact hn)
  clear hq HBU
  generalize hTT : T = T0 at hT hT64 hTn
  subst hTT
  have hT' := hT
  cases T with
  | mk tr tf tu tks =>
  obtain ⟨At, cpt, rfl, -⟩ := hT'.kids
  have h2z := hb2.size
  have hbx3 : Blk (w2.alloc (.cells #[.int .i64 tr, .int .i64 tf, .int .i64 tu, .slice At tks.length cpt] 42)) w2.heap.size 42 #[.int .i64 tr, .int .i64 tf, .int .i64 tu, .slice At tks.length cpt] := blk_at rfl
  have hb3 : Below w1.heap.size w1 (w2.alloc (.cells #[.int .i64 tr, .int .i64 tf, .int .i64 tu, .slice At tks.length cpt] 42)) := hb2.alloc h2z _
  have hT3 : TrIs (w2.alloc (.cells #[.int .i64 tr, .int .i64 tf, .int .i64 tu, .slice At tks.length cpt] 42)) (fun b => w1.heap.size ≤ b ∧ b < w2.heap.size) (.mk tr tf tu tks) [.int .i64 tr, .int .i64 tf, .int .i64 tu, .slice At tks.length cpt] := hT.keep (fun _ h => h) fun q hq => World.cell?_alloc_lt _ _ _ hq.2
  have h3z : (w2.alloc (.cells #[.int .i64 tr, .int .i64 tf, .int .i64 tu, .slice At tks.length cpt] 42)).heap.size = w2.heap.size + 1 := by simp
  generalize hTT : Tr.mk tr tf tu tks = T at hT hT64 hTn hT3
  clear hT'
  go_wp2_with fail
  generalize (w2.alloc (.cells #[.int .i64 tr, .int .i64 tf, .int .i64 tu, .slice At tks.length cpt] 42)) = w3 at hbx3 hb3 hT3 h3z ⊢
  clear hT
  generalize hbxn : w2.heap.size = bx at hbx3 hT3 h3z h2z ⊢
  clear hbxn
  have HTT : Hid (∀ W : World, w3.heap.size ≤ W.heap.size → (∀ b, w1.heap.size ≤ b → b < w3.heap.size → W.heap[b]? = w3.heap[b]?) → Calls Try.prog 41 #[.agg #[.int .i64 tr, .int .i64 tf, .int .i64 tu, .slice At tks.length cpt]] W fun e w' => e = .returned (.string ⟨(txT T).toArray⟩) ∧ Below W.heap.size W w') := fun W h1 h2 =>
    treeText_any T _ W _ (hT3.keep (fun _ h => h) fun q hq => World.cell?_of_block (h2 _ hq.1 (by have := hq.2; omega))) (fun b hb => by have := hb.2; omega) hTn hT64
  have HOF : Hid (∀ W : World, w3.heap.size ≤ W.heap.size → (∀ b, w1.heap.size ≤ b → b < w3.heap.size → W.heap[b]? = w3.heap[b]?) → Calls Try.prog 25 #[.agg #[.int .i64 tr, .int .i64 tf, .int .i64 tu, .slice At tks.length cpt]] W fun e w' => (∃ V c, e = .returned (.slice V (evs T).length c) ∧ w'.ownsRow W.heap.size 81 3 (.slice V (evs T).length c) (evs T).length (evCells (evs T))) ∧ Below W.heap.size W w') := fun W h1 h2 =>
    of_any T _ W _ (hT3.keep (fun _ h => h) fun q hq => World.cell?_of_block (h2 _ hq.1 (by have := hq.2; omega))) (fun b hb => by have := hb.2; omega) hTn
  have hEL : 0 < (evs T).length := by rw [evs_len]; cases T with | mk => rw [trNodes]; omega
  have hEB : (evs T).length ≤ 2097152 := by rw [evs_len]; omega
  clear hTT hT3 hT64 hTn
  have hw3 : Below w.heap.size w w3 := hb1.trans (hb3.mono h1z)
  have h3s := hb3.size
  refine (HEQ.out _ hb3 hw3).mono ?_
  rintro e w4 ⟨rfl, d, rfl⟩
  have hb4 : Below w1.heap.size w1 (w3.drewN d) := below_drewN hb3 d
  have hbx4 : Blk (w3.drewN d) bx 42 #[.int .i64 tr, .int .i64 tf, .int .i64 tu, .slice At tks.length cpt] := hbx3.drewN d
  have hk4 : ∀ b, w1.heap.size ≤ b → b < w3.heap.size → (w3.drewN d).heap[b]? = w3.heap[b]? := fun b _ _ => rfl
  have h4z : (w3.drewN d).heap.size = w3.heap.size := rfl
  have hw4 : Below w.heap.size w (w3.drewN d) := below_drewN hw3 d
  generalize w3.drewN d = w4 at hb4 hbx4 hk4 h4z hw4 ⊢
  have m0 : w4.cell? ⟨g, n * 3, none⟩ = some (.int .i64 9) := (hb4.cell hgl).trans HM0.out
  have m1 : w4.cell? ⟨g, n * 3 + 1, none⟩ = some (.int .i64 0) := (hb4.cell hgl).trans HM1.out
  have m2 : w4.cell? ⟨g, n * 3 + 2, none⟩ = some (.int .i64 0) := (hb4.cell hgl).trans HM2.out
  have x0 : w4.cell? ⟨bx, 0, none⟩ = some (.int .i64 tr) := hbx4.cell 0
  have x1 : w4.cell? ⟨bx, 1, none⟩ = some (.int .i64 tf) := hbx4.cell 1
  have x2 : w4.cell? ⟨bx, 2, none⟩ = some (.int .i64 tu) := hbx4.cell 2
  have x3 : w4.cell? ⟨bx, 3, none⟩ = some (.slice At tks.length cpt) := hbx4.cell 3
  have hnn : (n : Int) < (n : Int) + 3 := by omega
  go_wp2_with fail
  refine (HTT.out _ (by omega) hk4).mono ?_
  rintro e w5 ⟨rfl, hb5⟩
  have h5z := hb5.size
  have hk5 : ∀ b, w1.heap.size ≤ b → b < w3.heap.size → w5.heap[b]? = w3.heap[b]? := fun b h1 h2 => (hb5.block b (by omega)).trans (hk4 b h1 h2)
  have hbx5 := hbx4.below hb5 hbx4.lt
  have hbg5 : Blk w5 g 81 cs := ((HBG.out.below hb4 hgl).below hb5 (by omega))
  have hw5 : Below w.heap.size w w5 := hw4.trans (hb5.mono hw4.size)
  clear x0 x1 x2 x3 m0 m1 m2 hk4 hbx4 hb5
  have x0 : w5.cell? ⟨bx, 0, none⟩ = some (.int .i64 tr) := hbx5.cell 0
  have x1 : w5.cell? ⟨bx, 1, none⟩ = some (.int .i64 tf) := hbx5.cell 1
  have x2 : w5.cell? ⟨bx, 2, none⟩ = some (.int .i64 tu) := hbx5.cell 2
  have x3 : w5.cell? ⟨bx, 3, none⟩ = some (.slice At tks.length cpt) := hbx5.cell 3
  go_wp2_with fail
  refine (HOF.out _ (by omega) hk5).mono ?_
  rintro e w6 ⟨⟨V6, c6, rfl, hown6⟩, hb6⟩
  have h6z := hb6.size
  have hk6 : ∀ b, w1.heap.size ≤ b → b < w3.heap.size → w6.heap[b]? = w3.heap[b]? := fun b h1 h2 => (hb6.block b (by omega)).trans (hk5 b h1 h2)
  have hbx6 := hbx5.below hb6 hbx5.lt
  have hbg6 := hbg5.below hb6 hbg5.lt
  have hw6 : Below w.heap.size w w6 := hw5.trans (hb6.mono hw5.size)
  obtain ⟨g2, hg2, hg2l, hc6, cs2, hcs2, hbg2, hV2⟩ : ∃ g2, w5.heap.size ≤ g2 ∧ g2 < w6.heap.size ∧ c6 ≤ 9223372036854775807 ∧ ∃ cs2 : Array Value, cs2.size = c6 * 3 ∧ Blk w6 g2 81 cs2 ∧ V6 = some ⟨g2, 0, none⟩ := by
    obtain ⟨gg, cc, hv, hgg, hll⟩ := hown6.form hEL
    rcases hown6.2 with ⟨e, _⟩ | ⟨g', c', cur, e, q1, q2, q3, q4, q5, _⟩
    · rw [e] at hv; cases hv
    · simp only [Value.slice.injEq, true_and] at e
      obtain ⟨rfl, rfl⟩ := e
      exact ⟨g', q1, (Blk.lt q2), (by unfold maxLen at q4; omega), cur, q5, q2, rfl⟩
  subst hV2
  have HS1 := Lib.hid (spoilV_any g n (n + 3) cs w6 hbg6 hsz (by omega))
  clear x0 x1 x2 x3 hk5 hbx5 hb6 hown6 hbg5
  go_wp2_with fail
  refine (HS1.out).mono ?_
  rintro e w7 ⟨rfl, hg7⟩
  have h7z := hg7.size
  have hbxg : bx ≠ g := by omega
  have hbx7 := hbx6.grown hg7 (fun e => hbxg (by injection e))
  have hbg27 := hbg2.grown hg7 (fun e => by injection e with e; omega)
  have hk7 : ∀ b, w1.heap.size ≤ b → b < w3.heap.size → w7.heap[b]? = w3.heap[b]? := fun b h1 h2 => (hg7.block b (by omega) (fun e => by injection e with e; omega)).trans (hk6 b h1 h2)
  have hw7 : Below w.heap.size w w7 := gb_below hw6 hg7 hw6.size hg
  have HS2 := Lib.hid (spoilV_any g2 (evs T).length c6 cs2 w7 hbg27 hcs2 hc6)
  clear hk6 hbx6 hbg6 hbg2 hbg27 hg7
  go_wp2_with fail
  refine (HS2.out).mono ?_
  rintro e w8 ⟨rfl, hg8⟩
  have h8z := hg8.size
  have hbx8 := hbx7.grown hg8 (fun e => by injection e with e; omega)
  have hk8 : ∀ b, w1.heap.size ≤ b → b < w3.heap.size → w8.heap[b]? = w3.heap[b]? := fun b h1 h2 => (hg8.block b (by omega) (fun e => by injection e with e; omega)).trans (hk7 b h1 h2)
  have hw8 : Below w.heap.size w w8 := gb_below hw7 hg8 hw7.size (by omega)
  have hw8z := hw8.size
  clear hk7 hbx7 hg8
  have hR9 : Reads (w8.alloc (.cells #[.int .i64 1, .int .i64 0, .int .i64 0, .int .i64 2, .int .i64 0, .int .i64 4] 81)) (w8.heap.size + 1) 3 (some ⟨w8.heap.size, 0, none⟩) 2 (evCells [(1, 0, 0), (2, 0, 4)]) :=
    ⟨rfl, fun _ => ⟨_, rfl, by simp, fun k u hu => by
      have hb : Blk (w8.alloc (.cells #[.int .i64 1, .int .i64 0, .int .i64 0, .int .i64 2, .int .i64 0, .int .i64 4] 81)) w8.heap.size 81 #[.int .i64 1, .int .i64 0, .int .i64 0, .int .i64 2, .int .i64 0, .int .i64 4] := blk_at rfl
      rw [cell_at0, Nat.zero_add, hb.cell k, ← Array.getElem?_toList]
      exact hu⟩⟩
  have HB9 := Lib.hid (build_any (some ⟨w8.heap.size, 0, none⟩) 2 2 [(1, 0, 0), (2, 0, 4)] (w8.heap.size + 1) _ hR9 (by simp) (by omega))
  have hb89 : Below w8.heap.size w8 (w8.alloc (.cells #[.int .i64 1, .int .i64 0, .int .i64 0, .int .i64 2, .int .i64 0, .int .i64 4] 81)) := (by repeat (first | exact Below.refl _ _ | assumption | refine Below.drew ?_ | refine below_drewN ?_ _ | refine Below.alloc ?_ (by first | omega | (simp; omega) | simp) _ | refine Below.setCell ?_ (by first | omega | (simp; omega) | simp) _))
  clear hR9
  go_wp2_with fail
  refine (HB9.out).mono ?_
  rintro e w9 ⟨⟨tc9, h9⟩, hb9⟩
  have hbb9 : Below w8.heap.size w8 w9 := hb89.trans (hb9.mono (by simp))
  have h9z := hbb9.size
  have hbld : bld [(1, 0, 0), (2, 0, 4)] [] = some (.mk 0 0 4 []) := by rfl
  obtain ⟨A9, c9, rfl, rfl⟩ : ∃ A9 c9, e = .returned (.tuple #[.agg #[.int .i64 0, .int .i64 0, .int .i64 4, .slice A9 0 c9], .int .i64 0]) ∧ tc9 = [.int .i64 0, .int .i64 0, .int .i64 4, .slice A9 0 c9] := by
    rcases h9 with ⟨t9, q1, q2, q3⟩ | ⟨q1, -⟩
    · rw [hbld] at q1
      injection q1 with q1
      subst q1
      obtain ⟨A9, c9, rfl, -⟩ := q3.kids
      exact ⟨A9, c9, q2, rfl⟩
    · rw [hbld] at q1; cases q1
  clear h9 hbld HB9 hb89 hb9
  have hbu : Blk (w9.alloc (.cells #[.int .i64 0, .int .i64 0, .int .i64 4, .slice A9 0 c9] 42)) w9.heap.size 42 #[.int .i64 0, .int .i64 0, .int .i64 4, .slice A9 0 c9] := blk_at rfl
  have hbx10 : Blk (w9.alloc (.cells #[.int .i64 0, .int .i64 0, .int .i64 4, .slice A9 0 c9] 42)) bx 42 #[.int .i64 tr, .int .i64 tf, .int .i64 tu, .slice At tks.length cpt] := (hbx8.below hbb9 hbx8.lt).alloc _
  have hk10 : ∀ b, w1.heap.size ≤ b → b < w3.heap.size → (w9.alloc (.cells #[.int .i64 0, .int .i64 0, .int .i64 4, .slice A9 0 c9] 42)).heap[b]? = w3.heap[b]? := fun b h1 h2 => (Below.heap_alloc _ _ _ (by omega)).trans ((hbb9.block b (by omega)).trans (hk8 b h1 h2))
  have hw10 : Below w.heap.size w (w9.alloc (.cells #[.int .i64 0, .int .i64 0, .int .i64 4, .slice A9 0 c9] 42)) := (hw8.trans (hbb9.mono hw8z)).alloc (by omega) _
  have h10z : w9.heap.size < (w9.alloc (.cells #[.int .i64 0, .int .i64 0, .int .i64 4, .slice A9 0 c9] 42)).heap.size := by simp
  have hbx9 := hbx8.below hbb9 hbx8.lt
  have hl9 := hbx9.lt
  have x0 : w9.cell? ⟨bx, 0, none⟩ = some (.int .i64 tr) := hbx9.cell 0
  have x1 : w9.cell? ⟨bx, 1, none⟩ = some (.int .i64 tf) := hbx9.cell 1
  have x2 : w9.cell? ⟨bx, 2, none⟩ = some (.int .i64 tu) := hbx9.cell 2
  have x3 : w9.cell? ⟨bx, 3, none⟩ = some (.slice At tks.length cpt) := hbx9.cell 3
  go_wp2_with fail
  refine (HTT.out _ (by omega) hk10).mono ?_
  rintro e w11 ⟨rfl, hb11⟩
  have hu11 := hbu.below hb11 hbu.lt
  have hw11 : Below w.heap.size w w11 := hw10.trans (hb11.mono hw10.size)
  have u2 : w11.cell? ⟨w9.heap.size, 2, none⟩ = some (.int .i64 4) := hu11.cell 2
  have u3 : w11.cell? ⟨w9.heap.size, 3, none⟩ = some (.slice A9 0 c9) := hu11.cell 3
  rcases hz with rfl | rfl
  all_goals
    go_wp2
    go_ret
    exact ⟨by simp, hw11⟩
end Go.Proofs.Ytphfckihdhmhpaa
