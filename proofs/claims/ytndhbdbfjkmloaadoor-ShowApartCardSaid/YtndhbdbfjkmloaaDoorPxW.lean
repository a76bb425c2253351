/- show.level, show.within, show.text. -/
import Derived.Test.YtndhbdbfjkmloaaDoorPxC
import Derived.Test.YtndhbdbfjkmloaaDoorQcC
import Derived.Test.YtndhbdbfjkmloaaDoorSmA
import Derived.Test.YtndhbdbfjkmloaaDoorShJd
import Derived.Test.YtndhbdbfjkmloaaDoorQSpl
namespace Go.Proofs.YtndhbdbfjkmloaaDoor
open Go.RowKit

theorem level_any (k a b c d : Int) (t : ByteArray) (A : Option Addr) (n cp : Nat) (w : World) :
    Calls Tryd.prog 87 #[.agg #[.int .i64 k, .int .u64 a, .int .u64 b, .int .u64 c, .int .u64 d, .string t, .slice A n cp]] w fun e w' => e = .returned (.int .i64 (lvl k : Nat)) ∧ Below w.heap.size w w' := by
  by_cases h : k = 6 ∨ k = 5 ∨ k = 10 ∨ k = 11 ∨ k = 7 ∨ k = 8 ∨ k = 9
  · rcases h with rfl | rfl | rfl | rfl | rfl | rfl | rfl
    all_goals
      go_enter Tryd.func87, Tryd.ntmps87
      go_wp2
      go_ret
      exact ⟨rfl, (by repeat (first | exact Below.refl _ _ | assumption | refine Below.drew ?_ | refine below_drewN ?_ _ | refine Below.alloc ?_ (by first | omega | (simp; omega) | simp) _ | refine Below.setCell ?_ (by first | omega | (simp; omega) | simp) _))⟩
  · have h1 : (k == 6) = false := by rw [beq_eq_false_iff_ne]; omega
    have h2 : (k == 5) = false := by rw [beq_eq_false_iff_ne]; omega
    have h3 : (k == 10) = false := by rw [beq_eq_false_iff_ne]; omega
    have h4 : (k == 11) = false := by rw [beq_eq_false_iff_ne]; omega
    have h5 : (k == 7) = false := by rw [beq_eq_false_iff_ne]; omega
    have h6 : (k == 8) = false := by rw [beq_eq_false_iff_ne]; omega
    have h7 : (k == 9) = false := by rw [beq_eq_false_iff_ne]; omega
    have hl : lvl k = 5 := by unfold lvl; rw [if_neg (by omega), if_neg (by omega), if_neg (by omega), if_neg (by omega)]
    rw [hl]
    go_enter Tryd.func87, Tryd.ntmps87
    go_wp2
    go_ret
    exact ⟨rfl, (by repeat (first | exact Below.refl _ _ | assumption | refine Below.drew ?_ | refine below_drewN ?_ _ | refine Below.alloc ?_ (by first | omega | (simp; omega) | simp) _ | refine Below.setCell ?_ (by first | omega | (simp; omega) | simp) _))⟩

/-! how long a text is -/
theorem brk_len (e : Ex) (least : Nat) (s : List UInt8) : (brk e least s).length ≤ s.length + 2 := by
  unfold brk
  split <;> simp
theorem txL_len (least : Nat) : ∀ ks : List Ex, (txL least ks).length = ks.length
  | [] => rfl
  | e :: ks => by rw [txL, List.length_cons, List.length_cons, txL_len least ks]
theorem lens_txL (least : Nat) : ∀ ks : List Ex, (∀ e ∈ ks, (txE e).length + 6 ≤ 3000 * nodes e) → Lib.lens (txL least ks) + 3 * ks.length ≤ 3000 * nodesAll ks
  | [], _ => by simp [txL, Lib.lens, nodesAll]
  | e :: ks, h => by
    have h1 := h e (.head _)
    have h2 := lens_txL least ks fun x hx => h x (.tail _ hx)
    have h3 := brk_len e least (txE e)
    rw [txL, nodesAll]
    simp only [Lib.lens, List.map_cons, List.sum_cons, List.length_cons] at h2 ⊢
    omega
theorem join_txL (least : Nat) (sep : List UInt8) (hs : sep.length ≤ 3) (ks : List Ex) (h : ∀ e ∈ ks, (txE e).length + 6 ≤ 3000 * nodes e) : (Lib.join (txL least ks) sep).length ≤ 3000 * nodesAll ks := by
  cases ks with
  | nil => simp [txL, Lib.join_nil]
  | cons e ks =>
    have h1 := lens_txL least (e :: ks) h
    rw [txL] at h1 ⊢
    rw [Lib.join_length]
    have := txL_len least ks
    have h2 : sep.length * ks.length ≤ 3 * ks.length := Nat.mul_le_mul_right _ hs
    have h3 : ks.length * sep.length ≤ 3 * ks.length := by rw [Nat.mul_comm]; exact h2
    simp only [List.length_cons, txL_len] at h1 ⊢
    omega
theorem flat_len (least : Nat) (e : Ex) (h : (txE e).length + 6 ≤ 3000 * nodes e) : (txL least [e]).flatten.length ≤ 3000 * nodesAll [e] := by
  have := brk_len e least (txE e)
  rw [txL, txL, flat_one]
  simp only [nodesAll]
  omega
theorem clsAll_len (l : List Nat) : (clsAll l).length ≤ 2400 := by
  have := clsT_len l 257 (fstB l 0)
  unfold clsAll
  simp only [List.cons_append, List.length_cons, List.length_append, List.length_nil]
  omega
theorem name_len {t : List UInt8} (h : nameB t = true) : t.length ≤ 8 := by
  unfold nameB at h
  simp only [Bool.and_eq_true, decide_eq_true_iff] at h
  exact h.1.2
theorem tx_len (e : Ex) : Rt e → (txE e).length + 6 ≤ 3000 * nodes e := by
  induction e using Ex.ind with
  | h k a b c d t ks ih =>
    intro hR
    cases hR with
    | mk _ _ _ _ _ _ _ hf ha hb hc hd hks =>
    have IH : ∀ e ∈ ks, (txE e).length + 6 ≤ 3000 * nodes e := fun e he => ih e he (hks e he)
    have hj := fun least sep hs => join_txL least sep hs ks IH
    rw [nodes]
    rcases fit_what hf with ⟨rfl, _⟩ | ⟨rfl, _⟩ | ⟨rfl, ht, _⟩ | ⟨rfl, ht, _⟩ | ⟨hk, _⟩ | ⟨hk, ht, _, hn⟩
    · rw [txE, if_pos rfl]
      simp only [List.length_cons, List.length_nil]
      omega
    · rw [txE, if_neg (by decide), if_pos rfl]
      split
      · simp only [List.length_cons, List.length_nil]
        omega
      · have := clsAll_len [a.toNat, b.toNat, c.toNat, d.toNat]
        omega
    · rw [txE, if_neg (by decide), if_neg (by decide), if_pos rfl]
      have := encAll_len false t.data.toList
      unfold litL
      simp only [List.length_cons, List.length_append, List.length_nil]
      have := ht.2
      omega
    · rw [txE, if_neg (by decide), if_neg (by decide), if_neg (by decide), if_pos rfl]
      have := name_len ht
      omega
    · rcases hk with rfl | rfl
      · have := hj 3 [32] (by decide)
        rw [txE]
        simp only [Int.reduceEq, if_false]
        omega
      · have := hj 2 [32, 47, 32] (by decide)
        rw [txE]
        simp only [Int.reduceEq, if_false, if_true]
        omega
    · obtain ⟨e0, rfl⟩ : ∃ e0, ks = [e0] := by
        match ks, hn with
        | [e0], _ => exact ⟨e0, rfl⟩
      have h3 := flat_len 3 e0 (IH e0 (.head _))
      have h4 := flat_len 4 e0 (IH e0 (.head _))
      rcases (show k = 7 ∨ k = 8 ∨ k = 9 ∨ k = 10 ∨ k = 11 by omega) with rfl | rfl | rfl | rfl | rfl
      all_goals
        rw [txE]
        simp only [Int.reduceEq, if_false, if_true, List.length_cons, List.length_append, List.length_nil]
        omega
theorem rt_of {e : Ex} : WfE e → checkE e = 0 → Rt e := by
  induction e using Ex.ind with
  | h k a b c d t ks ih =>
    intro hw hc
    cases hw with
    | mk _ _ _ _ _ _ _ h1 h2 h3 h4 h5 hks =>
    obtain ⟨_, hp, _⟩ := parts_ok hc
    refine .mk _ _ _ _ _ _ _ ?_ h2 h3 h4 h5 fun e he => ih e he (hks e he) ?_
    · unfold checkE at hc
      rw [lookN] at hc
      split at hc
      · omega
      · split at hc
        · omega
        · split at hc
          · omega
          · rename_i hf
            exact Bool.not_eq_false _ ▸ hf
    · have := hp e he
      by_cases h0 : checkE e = 0
      · exact h0
      · rw [size_bad h0] at this
        injection this with e1 e2
theorem nodes_le {e : Ex} (h : checkE e = 0) : nodes e ≤ 60 := by
  cases e with
  | mk k a b c d t ks =>
    have h1 := look_ok _ 0 1 h 0 1 (Nat.le_refl _) (Nat.le_refl _)
    have h2 := lookN_le (.mk k a b c d t ks) 0 1 (by omega)
    have h3 := h2.2 h
    rw [h1] at h3
    simpa using h3
end Go.Proofs.YtndhbdbfjkmloaaDoor
