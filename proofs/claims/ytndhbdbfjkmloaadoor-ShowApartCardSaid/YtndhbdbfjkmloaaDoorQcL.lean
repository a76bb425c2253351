/- A class that was written is read as it was: plain. -/
import Derived.Test.YtndhbdbfjkmloaaDoorQuoN
import Derived.Test.YtndhbdbfjkmloaaDoorQcP
namespace Go.Proofs.YtndhbdbfjkmloaaDoor
open Go.RowKit

theorem enc_c (n : Nat) (h : n < 256) : nextN sgC (enc true n) = (n, (enc true n).length) ∧ bt (enc true n) 0 ≠ 93 ∧ bt (enc true n) 0 ≠ 45 ∧ bt (enc true n) 0 ≠ 94 ∧ 0 < (enc true n).length := by
  have h' : ∀ n : Fin 256, nextN sgC (enc true n.val) = (n.val, (enc true n.val).length) ∧ bt (enc true n.val) 0 ≠ 93 ∧ bt (enc true n.val) 0 ≠ 45 ∧ bt (enc true n.val) 0 ≠ 94 ∧ 0 < (enc true n.val).length := by decide +kernel
  exact h' ⟨n, h⟩
theorem unc_step (f : Nat) {l : List UInt8} (acc : List Nat) (hl : l ≠ []) (h93 : bt l 0 ≠ 93) {b n : Nat} (hn : nextN sgC l = (b, n)) (hn0 : n ≠ 0) : unc (f + 1) l acc =
      if 1 < (l.drop n).length ∧ bt (l.drop n) 0 = 45 ∧ bt (l.drop n) 1 ≠ 93 then
        if (nextN sgC (l.drop (n + 1))).2 = 0 ∨ (nextN sgC (l.drop (n + 1))).1 < b then none
        else (unc f (l.drop (n + 1 + (nextN sgC (l.drop (n + 1))).2)) (orW acc (rangeL b ((nextN sgC (l.drop (n + 1))).1 + 1 - b)))).map fun x => (x.1, n + 1 + (nextN sgC (l.drop (n + 1))).2 + x.2)
      else (unc f (l.drop n) (orW acc (rangeL b 1))).map fun x => (x.1, n + x.2) := by
  cases l with
  | nil => exact absurd rfl hl
  | cons x l => rw [unc.eq_def]; dsimp only; rw [if_neg h93, hn]; dsimp only; rw [if_neg hn0]
theorem unc_one (f : Nat) {b : Nat} (hb : b < 256) (t : List UInt8) (ht : bt t 0 ≠ 45) (acc : List Nat) :
    unc (f + 1) (enc true b ++ t) acc = (unc f t (orW acc (rangeL b 1))).map fun x => (x.1, (enc true b).length + x.2) := by
  obtain ⟨h1, h2, h3, _, h5⟩ := enc_c b hb
  have hne : enc true b ≠ [] := fun e => by rw [e] at h5; simp at h5
  have hn : nextN sgC (enc true b ++ t) = (b, (enc true b).length) := by rw [nextN_app (by rw [h1]; simp only; omega) hne, h1]
  rw [unc_step f acc (by simp [hne]) (by rw [bt_app h5]; exact h2) hn (by omega), List.drop_left, if_neg (fun h => ht h.2.1)]
theorem unc_two (f : Nat) {b h : Nat} (hb : b < 256) (hh : h < 256) (hbh : b < h) (t : List UInt8) (acc : List Nat) :
    unc (f + 1) (enc true b ++ 45 :: (enc true h ++ t)) acc = (unc f t (orW acc (rangeL b (h + 1 - b)))).map fun x => (x.1, (enc true b).length + 1 + (enc true h).length + x.2) := by
  obtain ⟨h1, h2, h3, _, h5⟩ := enc_c b hb
  obtain ⟨k1, k2, k3, _, k5⟩ := enc_c h hh
  have hne : enc true b ≠ [] := fun e => by rw [e] at h5; simp at h5
  have kne : enc true h ≠ [] := fun e => by rw [e] at k5; simp at k5
  have hn : nextN sgC (enc true b ++ 45 :: (enc true h ++ t)) = (b, (enc true b).length) := by rw [nextN_app (by rw [h1]; simp only; omega) hne, h1]
  have kn : nextN sgC (enc true h ++ t) = (h, (enc true h).length) := by rw [nextN_app (by rw [k1]; simp only; omega) kne, k1]
  have d1 : (enc true b ++ 45 :: (enc true h ++ t)).drop ((enc true b).length + 1) = enc true h ++ t := by
    rw [← List.drop_drop, List.drop_left]; rfl
  have d2 : (enc true b ++ 45 :: (enc true h ++ t)).drop ((enc true b).length + 1 + (enc true h).length) = t := by
    rw [← List.drop_drop, d1, List.drop_left]
  rw [unc_step f acc (by simp [hne]) (by rw [bt_app h5]; exact h2) hn (by omega), List.drop_left, if_pos, d1, kn]
  · dsimp only
    rw [if_neg (by omega), d2]
  · refine ⟨by simp; omega, rfl, ?_⟩
    have : bt (45 :: (enc true h ++ t)) 1 = bt (enc true h ++ t) 0 := rfl
    rw [this, bt_app k5]
    exact k2

theorem clsT_head (l : List Nat) (more : List UInt8) (k : Nat) (f : Nat) (hf : f ≤ 256) : bt (clsT l k (fstB l f) ++ 93 :: more) 0 ≠ 45 ∧ bt (clsT l k (fstB l f) ++ 93 :: more) 0 ≠ 94 := by
  have e93 : bt (([] : List UInt8) ++ 93 :: more) 0 = 93 := rfl
  cases k with
  | zero => rw [clsT, e93]; decide
  | succ k =>
    rw [clsT]
    split
    · rw [e93]; decide
    · rename_i h
      rcases fstB_is l f hf with ⟨b, e, _, h2, _, _⟩ | ⟨e, _⟩
      · rw [e]
        obtain ⟨_, _, h3, h4, h5⟩ := enc_c b h2
        have : ∀ x y z : List UInt8, bt (enc true b ++ x ++ y ++ z) 0 = bt (enc true b) 0 := fun x y z => by
          rw [List.append_assoc, List.append_assoc, bt_app h5]
        unfold piece
        rw [show (b : Int).toNat = b from rfl, this]
        exact ⟨h3, h4⟩
      · omega

theorem orW_words {l l' : List Nat} (h : Words l) (h' : Words l') : Words (orW l l') := by
  have e : ∀ {a b : Nat}, a < 18446744073709551616 → b < 18446744073709551616 → a ||| b < 18446744073709551616 := fun {a b} ha hb => by
    have := Nat.or_lt_two_pow (n := 64) (x := a) (y := b) (by simpa using ha) (by simpa using hb)
    simpa using this
  intro i
  match i with
  | 0 => exact e (h 0) (h' 0)
  | 1 => exact e (h 1) (h' 1)
  | 2 => exact e (h 2) (h' 2)
  | 3 => exact e (h 3) (h' 3)
  | i + 4 => simp [orW]
theorem rangeL_words (lo n : Nat) : Words (rangeL lo n) := fun i => rangeL_lt lo n i

theorem unc_cls (l : List Nat) (more : List UInt8) : ∀ (k f F : Nat) (acc : List Nat), f ≤ 256 → 257 ≤ k + f → (clsT l k (fstB l f)).length < F → Words acc → acc.length = 4 →
    ∃ o, unc F (clsT l k (fstB l f) ++ 93 :: more) acc = some (o, (clsT l k (fstB l f)).length + 1) ∧ o.length = 4 ∧ Words o ∧ ∀ j, j < 256 → hasN o j = (hasN acc j || (decide (f ≤ j) && hasN l j))
  | 0, f, F, acc, hf, hk, _, _, _ => by omega
  | k + 1, f, F, acc, hf, hk, hF, hw, ha => by
    have hfst := fstB_is l f hf
    obtain ⟨F', rfl⟩ : ∃ F', F = F' + 1 := ⟨F - 1, by omega⟩
    rw [clsT] at hF ⊢
    rcases hfst with ⟨b, e, h1, h2, h3, h4⟩ | ⟨e, h1⟩
    · rw [e] at hF ⊢
      rw [if_neg (by omega)] at hF ⊢
      rw [show (b : Int).toNat = b from rfl] at hF ⊢
      obtain ⟨r1, r2, r3, r4⟩ := runB_is l b (by omega)
      generalize runB l b = h at r1 r2 r3 r4 hF ⊢
      have hd := clsT_head l more k (h + 1) (by omega)
      have ih := fun F acc => unc_cls l more k (h + 1) F acc (by omega) (by omega)
      obtain ⟨_, b2, b3, _, b5⟩ := enc_c b h2
      have hin : ∀ j, j < 256 → (decide (b ≤ j ∧ j < b + (h + 1 - b)) || (decide (h + 1 ≤ j) && hasN l j)) = (decide (f ≤ j) && hasN l j) := fun j hj => by
        rcases Nat.lt_or_ge j b with c1 | c1
        · have a1 : ¬ (b ≤ j ∧ j < b + (h + 1 - b)) := by omega
          have a2 : ¬ (h + 1 ≤ j) := by omega
          rw [decide_eq_false a1, decide_eq_false a2]
          rcases Nat.lt_or_ge j f with c2 | c2
          · have a3 : ¬ (f ≤ j) := by omega
            rw [decide_eq_false a3]; rfl
          · rw [h4 j c2 c1]; simp
        · rcases Nat.lt_or_ge h j with c2 | c2
          · have a1 : ¬ (b ≤ j ∧ j < b + (h + 1 - b)) := by omega
            rw [decide_eq_false a1, decide_eq_true (show h + 1 ≤ j by omega), decide_eq_true (show f ≤ j by omega)]; simp
          · have a1 : b ≤ j ∧ j < b + (h + 1 - b) := by omega
            have a2 : hasN l j = true := by
              rcases Nat.eq_or_lt_of_le c1 with c3 | c3
              · rw [← c3]; exact h3
              · exact r3 j c3 c2
            rw [decide_eq_true a1, a2, decide_eq_true (show f ≤ j by omega)]; simp
      unfold piece at hF ⊢
      by_cases c1 : h = b + 1
      · rw [if_pos c1] at hF ⊢
        obtain ⟨_, k2, k3, _, k5⟩ := enc_c h (by omega)
        simp only [List.length_append] at hF
        obtain ⟨F2, rfl⟩ : ∃ F2, F' = F2 + 1 := ⟨F' - 1, by omega⟩
        obtain ⟨o, ho, h6, h7, h8⟩ := ih F2 (orW (orW acc (rangeL b 1)) (rangeL h 1)) (by omega) (orW_words (orW_words hw (rangeL_words _ _)) (rangeL_words _ _)) rfl
        refine ⟨o, ?_, h6, h7, fun j hj => ?_⟩
        · rw [List.append_assoc, List.append_assoc, unc_one _ h2 _ (by rw [bt_app k5]; exact k3), unc_one _ (by omega) _ hd.1, ho]
          simp only [Option.map_some, List.length_append]
          congr 2
          omega
        · rw [h8 j hj, ← hin j hj, orW_has _ _ hj, orW_has _ _ hj, rangeL_has _ _ (by omega) j hj, rangeL_has _ _ (by omega) j hj]
          rw [Bool.eq_iff_iff]
          simp only [Bool.or_eq_true, Bool.and_eq_true, decide_eq_true_iff]
          constructor
          · rintro (((h9 | h9) | h9) | h9)
            · exact .inl h9
            · exact .inr (.inl (by omega))
            · exact .inr (.inl (by omega))
            · exact .inr (.inr h9)
          · rintro (h9 | h9 | h9)
            · exact .inl (.inl (.inl h9))
            · rcases Nat.lt_or_ge j h with c | c
              · exact .inl (.inl (.inr (by omega)))
              · exact .inl (.inr (by omega))
            · exact .inr h9
      · rw [if_neg c1] at hF ⊢
        by_cases c2 : b < h
        · rw [if_pos c2] at hF ⊢
          simp only [List.length_append, List.length_cons] at hF
          obtain ⟨o, ho, h6, h7, h8⟩ := ih F' (orW acc (rangeL b (h + 1 - b))) (by omega) (orW_words hw (rangeL_words _ _)) rfl
          refine ⟨o, ?_, h6, h7, fun j hj => ?_⟩
          · rw [List.append_assoc, List.append_assoc, List.cons_append, unc_two _ h2 (by omega) c2, ho]
            simp only [Option.map_some, List.length_append, List.length_cons]
            congr 2
            omega
          · rw [h8 j hj, ← hin j hj, orW_has _ _ hj, rangeL_has _ _ (by omega) j hj, Bool.or_assoc]
        · rw [if_neg c2] at hF ⊢
          obtain rfl : h = b := by omega
          simp only [List.append_nil, List.length_append] at hF ⊢
          obtain ⟨o, ho, h6, h7, h8⟩ := ih F' (orW acc (rangeL h 1)) (by omega) (orW_words hw (rangeL_words _ _)) rfl
          refine ⟨o, ?_, h6, h7, fun j hj => ?_⟩
          · rw [List.append_assoc, unc_one _ h2 _ hd.1, ho]
            simp only [Option.map_some]
            congr 2
          · rw [h8 j hj, ← hin j hj, orW_has _ _ hj, rangeL_has _ _ (by omega) j hj, Bool.or_assoc, show h + 1 - h = 1 from by omega]
    · rw [e, if_pos (by omega)]
      refine ⟨acc, ?_, ha, hw, fun j hj => ?_⟩
      · show unc (F' + 1) (93 :: more) acc = _
        rw [unc.eq_def]
        dsimp only
        rw [if_pos (by rfl)]
        rfl
      · rcases Nat.lt_or_ge j f with c | c
        · rw [decide_eq_false (show ¬ f ≤ j by omega)]; simp
        · rw [h1 j c hj]; simp

/-- what was written is read as it was -/
theorem unc_back (l : List Nat) (hl : l.length = 4) (hw : Words l) (more : List UInt8) (F : Nat) (hF : (clsT l 257 (fstB l 0)).length < F) :
    unc F (clsT l 257 (fstB l 0) ++ 93 :: more) [0, 0, 0, 0] = some (l, (clsT l 257 (fstB l 0)).length + 1) := by
  obtain ⟨o, ho, h1, h2, h3⟩ := unc_cls l more 257 0 F [0, 0, 0, 0] (by omega) (by omega) hF (fun i => by
    match i with
    | 0 => simp
    | 1 => simp
    | 2 => simp
    | 3 => simp
    | i + 4 => simp) rfl
  have : o = l := words_eq h1 hl h2 hw fun j hj => by
    rw [h3 j hj]
    have := rangeL_has 0 0 (by omega) j hj
    rw [rangeL] at this
    rw [this, decide_eq_false (by omega)]
    simp
  rw [ho, this]
end Go.Proofs.YtndhbdbfjkmloaaDoor
