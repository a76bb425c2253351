/- The walk of the law CoverLeft: it returns true, and what was there stays as it was. -/
import Derived.Test.YtkoenjnjkapfmaaCovL
import Derived.Test.YtkoenjnjkapfmaaCovM
namespace Go.Proofs.Ytkoenjnjkapfmaa
open Go.RowKit

theorem left_law {a b : List Int} (h : mergeE a b = 0) (j : Nat) : ((j : Int) ∈ leftL (mergeV a b)) ↔ ((j : Int) ∈ leftL a ∧ (j : Int) ∈ leftL b) := by
  obtain ⟨h1, h2, h3⟩ := mergeE_zero.1 h
  simp only [leftL_mem, mergeV_zip h, List.getElem?_zipWith]
  have h0 : ∀ {x y : Int}, 0 ≤ x ∧ x ≤ 3 → 0 ≤ y ∧ y ≤ 3 → (orI x y % 2 = 0 ↔ x % 2 = 0 ∧ y % 2 = 0) := fun {x y} hx hy =>
    orI_fin (P := fun x y _ => (orI x y % 2 = 0 ↔ x % 2 = 0 ∧ y % 2 = 0)) (by decide +kernel) hx hy hx
  cases hx : a[j]? with
  | none => simp
  | some x =>
    cases hy : b[j]? with
    | none => simp
    | some y =>
      simp only [Option.some.injEq, exists_eq_left']
      exact h0 ((check_01 h1).2 x (List.mem_of_getElem? hx)) ((check_01 h2).2 y (List.mem_of_getElem? hy))

theorem walk_CoverLeft (A A' : Option Addr) (n c n' c' : Nat) (a b : List Int) (w : World)
    (ha : Reads w w.heap.size 1 A n (ints a)) (hb : Reads w w.heap.size 1 A' n' (ints b)) :
    Calls Try.prog 8 #[.slice A n c, .slice A' n' c'] w fun e w' => e = .returned (.bool true) ∧ Below w.heap.size w w' := by
  have K1 : checkL [0, 1, 2, 3] = 0 := by decide +kernel
  have K2 : leftL [0, 1, 2, 3] = [0, 2] := by decide +kernel
  go_enter Try.func8, Try.ntmps8
  go_wp2_with fail
  refine (left_yes _ _ _ [0, 1, 2, 3] (w.heap.size + 1) _ (reads_block (blk_at rfl) rfl rfl (by omega)) (by simp) K1).mono ?_
  rw [K2]
  rintro e w1 ⟨V1, c1, rfl, hr1, hb1⟩
  have hw1 : Below w.heap.size w w1 := Below.trans (by repeat (first | exact Below.refl _ _ | assumption | refine Below.drew ?_ | refine below_drewN ?_ _ | refine Below.alloc ?_ (by first | omega | (simp; omega) | simp) _)) (hb1.mono (by first | omega | (simp; omega) | simp)); have hzw1 := hw1.size; clear hb1
  clear K1 K2
  go_wp2_with fail
  refine (equal_yes _ _ _ _ _ _ [0, 2] [0, 2] w1.heap.size (w1.heap.size + 1) _ (hr1.alloc (by omega) _) (reads_block (blk_at rfl) rfl rfl (by omega)) (by unfold Small; simp) rfl).mono ?_
  rintro e w2 ⟨rfl, hb2⟩
  have hw2 : Below w.heap.size w w2 := Below.trans (by repeat (first | exact Below.refl _ _ | assumption | refine Below.drew ?_ | refine below_drewN ?_ _ | refine Below.alloc ?_ (by first | omega | (simp; omega) | simp) _)) (hb2.mono (by first | omega | (simp; omega) | simp)); have hzw2 := hw2.size; clear hb2
  clear hr1 hw1 hzw1
  go_wp2_with fail
  by_cases hab : mergeE a b = 0
  · have hla := ha.ints_len
    have hlb := hb.ints_len
    obtain ⟨e1, e2, e3⟩ := mergeE_zero.1 hab
    have e4 := merge_ok hab
    have hll : ∀ j : Nat, ((j : Int) ∈ leftL (mergeV a b)) ↔ ((j : Int) ∈ leftL a ∧ (j : Int) ∈ leftL b) := left_law hab
    have hn120 : n ≤ 120 := by have := (check_01 e1).1; omega
    have hsm : ∀ l : List Int, l.length ≤ 120 → Small (leftL l).length := fun l hl => by have := leftF_len l 0; unfold Small leftL; omega
    have sa := hsm a (by omega)
    have sb := hsm b (by omega)
    have sm := hsm (mergeV a b) (by rw [mergeV_len hab]; omega)
    have HLL := Lib.hid hll
    have Hab := Lib.hid hab
    have E1 := Lib.hid e1
    have E2 := Lib.hid e2
    have E4 := Lib.hid e4
    have HL3 := Lib.hid ((mergeV_len hab).trans hla)
    clear hab e1 e2 e3 e4 hla hlb hsm hll
    refine (merge_yes _ _ _ _ _ _ a b _ n w.heap.size w.heap.size _ (ha.below hw2) (hb.below hw2) hzw2 hzw2 Hab.out rfl HL3.out).mono ?_
    rintro e w3 ⟨M, c3, rfl, hm, hb3⟩
    have hw3 : Below w.heap.size w w3 := Below.trans (by repeat (first | exact Below.refl _ _ | assumption | refine Below.drew ?_ | refine below_drewN ?_ _ | refine Below.alloc ?_ (by first | omega | (simp; omega) | simp) _)) (hb3.mono (by first | omega | (simp; omega) | simp)); have hzw3 := hw3.size; clear hb3
    go_wp2_with fail
    refine (left_yes _ _ _ a w.heap.size _ (ha.below hw3) hzw3 E1.out).mono ?_
    rintro e w4 ⟨X, c4, rfl, hx, hb4⟩
    replace hm := hm.on hb4 (Nat.le_refl _)
    have hw4 : Below w.heap.size w w4 := Below.trans (by repeat (first | exact Below.refl _ _ | assumption | refine Below.drew ?_ | refine below_drewN ?_ _ | refine Below.alloc ?_ (by first | omega | (simp; omega) | simp) _)) (hb4.mono (by first | omega | (simp; omega) | simp)); have hzw4 := hw4.size; clear hb4
    go_wp2_with fail
    refine (left_yes _ _ _ b w.heap.size _ (hb.below hw4) hzw4 E2.out).mono ?_
    rintro e w5 ⟨Y, c5, rfl, hy, hb5⟩
    replace hm := hm.on hb5 (Nat.le_refl _)
    replace hx := hx.on hb5 (Nat.le_refl _)
    have hw5 : Below w.heap.size w w5 := Below.trans (by repeat (first | exact Below.refl _ _ | assumption | refine Below.drew ?_ | refine below_drewN ?_ _ | refine Below.alloc ?_ (by first | omega | (simp; omega) | simp) _)) (hb5.mono (by first | omega | (simp; omega) | simp)); have hzw5 := hw5.size; clear hb5
    go_wp2_with fail
    refine (left_yes _ _ _ (mergeV a b) _ _ hm (Nat.le_refl _) E4.out).mono ?_
    rintro e w6 ⟨Z, c6, rfl, hz, hb6⟩
    replace hx := hx.on hb6 (Nat.le_refl _)
    replace hy := hy.on hb6 (Nat.le_refl _)
    have hw6 : Below w.heap.size w w6 := Below.trans (by repeat (first | exact Below.refl _ _ | assumption | refine Below.drew ?_ | refine below_drewN ?_ _ | refine Below.alloc ?_ (by first | omega | (simp; omega) | simp) _)) (hb6.mono (by first | omega | (simp; omega) | simp)); have hzw6 := hw6.size; clear hb6
    clear hm
    go_wp2_with fail
    go_loop [14, 63] (fun _ i => ∃ k : Nat, k ≤ n ∧ i = .int .i64 k) (fun _ i => n - (intOf i).toNat)
    case atStart => exact ⟨0, by omega, rfl⟩
    case round =>
      obtain ⟨k, hk, rfl⟩ := hrel
      by_cases hkn : k < n
      · by_cases hkx : (k : Int) ∈ leftL a
        · have hbx : ∃ β : Bool, decide ((k : Int) ∈ leftL b) = β ∧ decide ((k : Int) ∈ leftL (mergeV a b)) = β :=
            ⟨_, rfl, decide_eq_decide.2 ⟨fun h => ((HLL.out k).1 h).2, fun h => (HLL.out k).2 ⟨hkx, h⟩⟩⟩
          obtain ⟨β, hβ1, hβ2⟩ := hbx
          have B1 := Lib.hid hβ1
          have B2 := Lib.hid hβ2
          have B3 := Lib.hid (decide_eq_true hkx)
          have hbb : (β != β) = false := by cases β <;> rfl
          clear hβ1 hβ2 hkx
          go_wp2_with fail
          refine (contains_any _ _ _ _ (k : Int) _ _ hz sm).mono ?_
          rintro e w7 ⟨rfl, rfl⟩
          rw [B2.out]
          go_wp2_with fail
          refine (contains_any _ _ _ _ (k : Int) _ _ hx sa).mono ?_
          rintro e w7 ⟨rfl, rfl⟩
          rw [B3.out]
          go_wp2_with fail
          refine (contains_any _ _ _ _ (k : Int) _ _ hy sb).mono ?_
          rintro e w7 ⟨rfl, rfl⟩
          rw [B1.out]
          go_wp2
          go_round
          case rel => exact ⟨k + 1, by omega, by go_num⟩
          case measure => simp [intOf]; omega
        · have B2 := Lib.hid (decide_eq_false (fun h => hkx ((HLL.out k).1 h).1))
          have B3 := Lib.hid (decide_eq_false hkx)
          clear hkx
          go_wp2_with fail
          refine (contains_any _ _ _ _ (k : Int) _ _ hz sm).mono ?_
          rintro e w7 ⟨rfl, rfl⟩
          rw [B2.out]
          go_wp2_with fail
          refine (contains_any _ _ _ _ (k : Int) _ _ hx sa).mono ?_
          rintro e w7 ⟨rfl, rfl⟩
          rw [B3.out]
          go_wp2
          go_round
          case rel => exact ⟨k + 1, by omega, by go_num⟩
          case measure => simp [intOf]; omega
      · go_wp2
        go_ret
        exact ⟨rfl, hw6⟩
  · refine (merge_no _ _ _ _ _ _ a b w.heap.size w.heap.size _ (ha.below hw2) (hb.below hw2) hzw2 hzw2 hab).mono ?_
    rintro e w3 ⟨X, c3, rfl, hb3⟩
    have hw3 : Below w.heap.size w w3 := Below.trans (by repeat (first | exact Below.refl _ _ | assumption | refine Below.drew ?_ | refine below_drewN ?_ _ | refine Below.alloc ?_ (by first | omega | (simp; omega) | simp) _)) (hb3.mono (by first | omega | (simp; omega) | simp)); have hzw3 := hw3.size; clear hb3
    have hne : (mergeE a b != 0) = true := by simpa using hab
    go_wp2
    go_ret
    exact ⟨rfl, hw3⟩
end Go.Proofs.Ytkoenjnjkapfmaa
