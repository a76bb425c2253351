/- kernel.count and kernel.of: a grammar with fewer kinds of expressions. -/
import Derived.Test.YtefechceoeeonaaKdA
import Derived.Test.YtefechceoeeonaaHA
namespace Go.Proofs.Ytefechceoeeonaa
open Go.RowKit Go.Maps

theorem K8.of_rt {g : List Rl} {e : Ex} (h : Rt g e) : K8 e := by
  induction h with
  | mk k a b c d t ks hf _ _ ih => exact .mk k a b c d t ks (fit_len hf) ih
mutual
/-- how many nodes there will be, as far as there may be -/
def cntE : Ex → Nat
  | .mk k _ _ _ _ _ ks => min ((if k = 8 then 2 * cntS ks 0 + 1 else if k = 9 ∨ k = 10 then cntS ks 0 + 1 else cntS ks 0) + 1) 401
def cntS : List Ex → Nat → Nat
  | [], n => n
  | e :: es, n => cntS es (min (n + cntE e) 400)
end
theorem cntE_le (e : Ex) : cntE e ≤ 401 := by
  cases e
  rw [cntE]
  exact Nat.min_le_right _ _
theorem cntS_le : ∀ (es : List Ex) (n : Nat), n ≤ 400 → cntS es n ≤ 400
  | [], n, h => by rw [cntS]; exact h
  | e :: es, n, h => by rw [cntS]; exact cntS_le es _ (Nat.min_le_right _ _)

set_option maxRecDepth 100000 in
set_option maxHeartbeats 4000000 in
theorem kcount_any (e : Ex) : ∀ (cs : List Value) (w : World), ExIs w w.heap.size e cs → Calls Try.prog 43 #[.agg cs.toArray] w (fun r w' => r = .returned (.int .i64 (cntE e)) ∧ Below w.heap.size w w') := by
  refine Ex.ind (P := fun e => ∀ (cs : List Value) (w : World), ExIs w w.heap.size e cs → Calls Try.prog 43 #[.agg cs.toArray] w (fun r w' => r = .returned (.int .i64 (cntE e)) ∧ Below w.heap.size w w')) ?_ e
  intro k a b c d t ks ih cs w hE
  obtain ⟨htl, A, cp, rfl, hkc, hcm, hnil⟩ := hE.shape
  have hcall : ∀ (j : Nat) (k' a' b' c' d' : Int) (t' : ByteArray) (ks' : List Ex) (A' : Option Addr) (cp' : Nat) (W : World), Below w.heap.size w W → ks[j]? = some (.mk k' a' b' c' d' t' ks') → ExIs w w.heap.size (.mk k' a' b' c' d' t' ks') (exCells k' a' b' c' d' t' A' ks'.length cp') →
      Calls Try.prog 43 #[.agg #[.int .i64 k', .int .u64 a', .int .u64 b', .int .u64 c', .int .u64 d', .string t', .slice A' ks'.length cp']] W (fun r w' => r = .returned (.int .i64 (cntE (.mk k' a' b' c' d' t' ks'))) ∧ Below W.heap.size W w') := fun j k' a' b' c' d' t' ks' A' cp' W hW hej hx =>
    ih _ (List.mem_of_getElem? hej) _ W (hx.grow hW)
  have HC := Lib.hid hcall
  have HE := Lib.hid hE
  have HF : Hid (cntE (.mk k a b c d t ks) = min ((if k = 8 then 2 * cntS ks 0 + 1 else if k = 9 ∨ k = 10 then cntS ks 0 + 1 else cntS ks 0) + 1) 401) := by show _ = _; rw [cntE]
  have hS4 := cntS_le ks 0 (by omega)
  clear ih hcall hE
  unfold exCells
  unfold maxLen at hcm
  generalize cntE (.mk k a b c d t ks) = z at HF ⊢
  obtain ⟨m, hm⟩ : ∃ m, cntS ks 0 = m := ⟨_, rfl⟩
  rw [hm] at HF hS4
  have HM : Hid (cntS (ks.drop 0) 0 = m) := hm
  clear hm
  go_enter Try.func43, Try.ntmps43
  go_wp2
  go_loopw [3, 9] (fun v i wr => ∃ j n : Nat, j ≤ ks.length ∧ n ≤ 400 ∧ i = .int .i64 j ∧ v = .int .i64 n ∧ Hid (cntS (ks.drop j) n = m) ∧ Below w.heap.size w wr ∧ Blk wr w.heap.size 38 #[.int .i64 k, .int .u64 a, .int .u64 b, .int .u64 c, .int .u64 d, .string t, .slice A ks.length cp]) (fun _ i _ => ks.length - (intOf i).toNat)
  case atStart => exact ⟨0, 0, by omega, by omega, rfl, rfl, HM, (by repeat (first | exact Below.refl _ _ | assumption | refine Below.drew ?_ | refine below_drewN ?_ _ | refine Below.alloc ?_ (by first | omega | (simp; omega) | simp) _ | refine Below.setCell ?_ (by first | omega | (simp; omega) | simp) _)), blk_at rfl⟩
  case round =>
    obtain ⟨j, n, hj, hn4, rfl, rfl, HR, hbw, hbx⟩ := hrel
    have hzw := hbw.size
    by_cases hjn : j < ks.length
    · obtain ⟨ad, k', a', b', c', d', t', ks', A', cp', rfl, hab, hej, hx, hS⟩ := HE.out.kid hjn
      have hk := fun (q : Addr) (hq : q.block = (ad.add (j * 7)).block) => hbw.cell (p := q) (by rw [hq, add_block]; omega)
      have y0 := (hk _ rfl).trans hS.c0
      have y1 := (hk ⟨_, _, none⟩ rfl).trans hS.c1
      have y2 := (hk ⟨_, _, none⟩ rfl).trans hS.c2
      have y3 := (hk ⟨_, _, none⟩ rfl).trans hS.c3
      have y4 := (hk ⟨_, _, none⟩ rfl).trans hS.c4
      have y5 := (hk ⟨_, _, none⟩ rfl).trans hS.c5
      have y6 := (hk ⟨_, _, none⟩ rfl).trans hS.c6
      have hjl : (j : Int) < (ks.length : Int) := by omega
      have HN : Hid (cntS (ks.drop (j + 1)) (min (n + cntE (.mk k' a' b' c' d' t' ks')) 400) = m) := by
        have h1 := HR.out
        rw [drop_of hej, cntS] at h1
        exact h1
      have hle := cntE_le (.mk k' a' b' c' d' t' ks')
      have hc1 := fun W hW => HC.out j k' a' b' c' d' t' ks' A' cp' W hW hej hx
      generalize cntE (.mk k' a' b' c' d' t' ks') = y at HN hle hc1
      have HC1 := Lib.hid hc1
      have hbx1 := hbx.alloc (.cells #[.int .i64 k', .int .u64 a', .int .u64 b', .int .u64 c', .int .u64 d', .string t', .slice A' ks'.length cp'] 38)
      clear hk hS hej hx hc1
      go_wp2_with fail
      refine (HC1.out _ (by repeat (first | exact Below.refl _ _ | assumption | refine Below.drew ?_ | refine below_drewN ?_ _ | refine Below.alloc ?_ (by first | omega | (simp; omega) | simp) _ | refine Below.setCell ?_ (by first | omega | (simp; omega) | simp) _))).mono ?_
      rintro e w1 ⟨rfl, hb1⟩
      have hbx2 := hbx1.below hb1 hbx1.lt
      have hw1 : Below w.heap.size w w1 := (hbw.alloc hzw _).trans (hb1.mono (by simp; omega))
      clear hb1
      go_wp2
      all_goals
        go_roundw
        case rel => exact ⟨j + 1, min (n + y) 400, by omega, by omega, by go_num, by congr 1; omega, HN.out, hw1, hbx2⟩
        case measure => simp [intOf]; omega
    · obtain rfl : j = ks.length := by omega
      have h1 := HR.out
      rw [List.drop_length, cntS] at h1
      subst h1
      have x0 : wr.cell? ⟨w.heap.size, 0, none⟩ = some (.int .i64 k) := hbx.cell 0
      by_cases k8 : k = 8
      · subst k8
        have HF2 : Hid (z = min (2 * n + 1 + 1) 401) := HF.out.trans (by rw [if_pos rfl])
        go_wp2
        all_goals
          go_ret
          exact ⟨ret_int (by rw [HF2.out]; omega), hbw⟩
      by_cases k9 : k = 9
      · subst k9
        have HF2 : Hid (z = min (n + 1 + 1) 401) := HF.out.trans (by rw [if_neg (by decide), if_pos (.inl rfl)])
        go_wp2
        all_goals
          go_ret
          exact ⟨ret_int (by rw [HF2.out]; omega), hbw⟩
      by_cases k10 : k = 10
      · subst k10
        have HF2 : Hid (z = min (n + 1 + 1) 401) := HF.out.trans (by rw [if_neg (by decide), if_pos (.inr rfl)])
        go_wp2
        all_goals
          go_ret
          exact ⟨ret_int (by rw [HF2.out]; omega), hbw⟩
      have HF2 : Hid (z = min (n + 1) 401) := HF.out.trans (by rw [if_neg k8, if_neg (by omega)])
      have b8 : (k == 8) = false := by rw [beq_eq_false_iff_ne]; exact k8
      have b9 : (k == 9) = false := by rw [beq_eq_false_iff_ne]; exact k9
      have b10 : (k == 10) = false := by rw [beq_eq_false_iff_ne]; exact k10
      clear k8 k9 k10
      go_wp2
      all_goals
        go_ret
        exact ⟨ret_int (by rw [HF2.out]; omega), hbw⟩

mutual
/-- with fewer kinds -/
def kerE : Ex → Ex
  | .mk k a b c d t ks =>
    if k = 8 then (match kerEs ks with
      | [] => .mk k a b c d t []
      | x :: _ => ofN 5 [x, ofN 7 [x]])
    else if k = 9 then (match kerEs ks with
      | [] => .mk k a b c d t []
      | x :: _ => ofN 6 [x, .mk 1 0 0 0 0 ⟨#[]⟩ []])
    else if k = 10 then ofN 11 [ofN 11 (kerEs ks)]
    else .mk k a b c d t (kerEs ks)
def kerEs : List Ex → List Ex
  | [] => []
  | e :: es => kerE e :: kerEs es
end
theorem kerEs_map : ∀ ks : List Ex, kerEs ks = ks.map kerE
  | [] => by rw [kerEs, List.map_nil]
  | e :: es => by rw [kerEs, kerEs_map es, List.map_cons]
/-- what has one kid has one -/
inductive Fit1 : Ex → Prop
  | mk (k a b c d : Int) (t : ByteArray) (ks : List Ex) : ks.length ≤ 8 → (k = 8 ∨ k = 9 → 0 < ks.length) → (∀ e ∈ ks, Fit1 e) → Fit1 (.mk k a b c d t ks)
theorem Fit1.k8 {e : Ex} (h : Fit1 e) : K8 (kerE e) := by
  induction h with
  | mk k a b c d t ks hl h1 _ ih =>
    have hk : ∀ x ∈ ks.map kerE, K8 x := fun x hx => by obtain ⟨e, he, rfl⟩ := List.mem_map.1 hx; exact ih e he
    rw [kerE, kerEs_map]
    split
    · split
      · exact .mk _ _ _ _ _ _ _ (by simp) (fun e he => by cases he)
      · rename_i x l hx
        have h0 := hk x (by rw [hx]; simp)
        exact .mk _ _ _ _ _ _ _ (by simp) (fun e he => by simp at he; rcases he with rfl | rfl; exact h0; exact .mk _ _ _ _ _ _ _ (by simp) (fun e he => by simp at he; rw [he]; exact h0))
    split
    · split
      · exact .mk _ _ _ _ _ _ _ (by simp) (fun e he => by cases he)
      · rename_i x l hx
        have h0 := hk x (by rw [hx]; simp)
        exact .mk _ _ _ _ _ _ _ (by simp) (fun e he => by simp at he; rcases he with rfl | rfl; exact h0; exact .mk _ _ _ _ _ _ _ (by simp) (fun e he => by cases he))
    split
    · exact .mk _ _ _ _ _ _ _ (by simp) (fun e he => by simp at he; rw [he]; exact .mk _ _ _ _ _ _ _ (by simpa using hl) hk)
    · exact .mk _ _ _ _ _ _ _ (by simpa using hl) hk
end Go.Proofs.Ytefechceoeeonaa
