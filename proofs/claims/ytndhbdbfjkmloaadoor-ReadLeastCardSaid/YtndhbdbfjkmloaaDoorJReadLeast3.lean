/- A class that was written is read as it was: plain. Signs of a text, one by one: plain. What is printed is read as it was: plain. -/
import Derived.Test.YtndhbdbfjkmloaaDoorJReadLeast1
import Derived.Test.YtndhbdbfjkmloaaDoorJReadLeast2
namespace Go.Proofs.YtndhbdbfjkmloaaDoor
open Go.RowKit

theorem enc_c (n : Nat) (h : n < 256) : nextN sgC (enc true n) = (n, (enc true n).length) ∧ bt (enc true n) 0 ≠ 93 ∧ bt (enc true n) 0 ≠ 45 ∧ bt (enc true n) 0 ≠ 94 ∧ 0 < (enc true n).length := by
  have h' : ∀ n : Fin 256, nextN sgC (enc true n.val) = (n.val, (enc true n.val).length) ∧ bt (enc true n.val) 0 ≠ 93 ∧ bt (enc true n.val) 0 ≠ 45 ∧ bt (enc true n.val) 0 ≠ 94 ∧ 0 < (enc true n.val).length := by decide +kernel
  exact h' ⟨n, h⟩
theorem unc_step (f : Nat) {l : List UInt8} (acc : List Nat) (hl : l ≠ []) (h93 : bt l 0 ≠ 93) {b n : Nat} (hn : nextN sgC l = (b, n)) (hn0 : n ≠ 0) : unc (f + 1) l acc =
      if 1 < (l.drop n).length ∧ bt (l.drop n) 0 = 45 ∧ bt (l.drop n) 1 ≠ 93 then
        if (nextN sgC (l.drop (n + 1))).2 = 0 ∨ (nextN sgC (l.drop (n + 1))).1 < b then none
        else (unc f (l.drop (n + 1 + (nextN sgC (l.drop (n + 1))).2)) (orW acc (rangeL b ((nextN sgC (l.drop (n + 1))).1 + 1 - b)))).map fun x => (x.1, n + 1 + (nextN sgC (l.drop (n + 1))).2 + x.2)
      else (unc f (l.drop n) (orW acc (rangeL b 1))).map fun x => (x.1, n + x.2) := by
  cases l with
  | nil => exact absurd rfl hl
  | cons x l => rw [unc.eq_def]; dsimp only; rw [if_neg h93, hn]; dsimp only; rw [if_neg hn0]
theorem unc_one (f : Nat) {b : Nat} (hb : b < 256) (t : List UInt8) (ht : bt t 0 ≠ 45) (acc : List Nat) :
    unc (f + 1) (enc true b ++ t) acc = (unc f t (orW acc (rangeL b 1))).map fun x => (x.1, (enc true b).length + x.2) := by
  obtain ⟨h1, h2, h3, _, h5⟩ := enc_c b hb
  have hne : enc true b ≠ [] := fun e => by rw [e] at h5; simp at h5
  have hn : nextN sgC (enc true b ++ t) = (b, (enc true b).length) := by rw [nextN_app (by rw [h1]; simp only; omega) hne, h1]
  rw [unc_step f acc (by simp [hne]) (by rw [bt_app h5]; exact h2) hn (by omega), List.drop_left, if_neg (fun h => ht h.2.1)]
theorem unc_two (f : Nat) {b h : Nat} (hb : b < 256) (hh : h < 256) (hbh : b < h) (t : List UInt8) (acc : List Nat) :
    unc (f + 1) (enc true b ++ 45 :: (enc true h ++ t)) acc = (unc f t (orW acc (rangeL b (h + 1 - b)))).map fun x => (x.1, (enc true b).length + 1 + (enc true h).length + x.2) := by
  obtain ⟨h1, h2, h3, _, h5⟩ := enc_c b hb
  obtain ⟨k1, k2, k3, _, k5⟩ := enc_c h hh
  have hne : enc true b ≠ [] := fun e => by rw [e] at h5; simp at h5
  have kne : enc true h ≠ [] := fun e => by rw [e] at k5; simp at k5
  have hn : nextN sgC (enc true b ++ 45 :: (enc true h ++ t)) = (b, (enc true b).length) := by rw [nextN_app (by rw [h1]; simp only; omega) hne, h1]
  have kn : nextN sgC (enc true h ++ t) = (h, (enc true h).length) := by rw [nextN_app (by rw [k1]; simp only; omega) kne, k1]
  have d1 : (enc true b ++ 45 :: (enc true h ++ t)).drop ((enc true b).length + 1) = enc true h ++ t := by
    rw [← List.drop_drop, List.drop_left]; rfl
  have d2 : (enc true b ++ 45 :: (enc true h ++ t)).drop ((enc true b).length + 1 + (enc true h).length) = t := by
    rw [← List.drop_drop, d1, List.drop_left]
  rw [unc_step f acc (by simp [hne]) (by rw [bt_app h5]; exact h2) hn (by omega), List.drop_left, if_pos, d1, kn]
  · dsimp only
    rw [if_neg (by omega), d2]
  · refine ⟨by simp; omega, rfl, ?_⟩
    have : bt (45 :: (enc true h ++ t)) 1 = bt (enc true h ++ t) 0 := rfl
    rw [this, bt_app k5]
    exact k2

theorem clsT_head (l : List Nat) (more : List UInt8) (k : Nat) (f : Nat) (hf : f ≤ 256) : bt (clsT l k (fstB l f) ++ 93 :: more) 0 ≠ 45 ∧ bt (clsT l k (fstB l f) ++ 93 :: more) 0 ≠ 94 := by
  have e93 : bt (([] : List UInt8) ++ 93 :: more) 0 = 93 := rfl
  cases k with
  | zero => rw [clsT, e93]; decide
  | succ k =>
    rw [clsT]
    split
    · rw [e93]; decide
    · rename_i h
      rcases fstB_is l f hf with ⟨b, e, _, h2, _, _⟩ | ⟨e, _⟩
      · rw [e]
        obtain ⟨_, _, h3, h4, h5⟩ := enc_c b h2
        have : ∀ x y z : List UInt8, bt (enc true b ++ x ++ y ++ z) 0 = bt (enc true b) 0 := fun x y z => by
          rw [List.append_assoc, List.append_assoc, bt_app h5]
        unfold piece
        rw [show (b : Int).toNat = b from rfl, this]
        exact ⟨h3, h4⟩
      · omega

theorem orW_words {l l' : List Nat} (h : Words l) (h' : Words l') : Words (orW l l') := by
  have e : ∀ {a b : Nat}, a < 18446744073709551616 → b < 18446744073709551616 → a ||| b < 18446744073709551616 := fun {a b} ha hb => by
    have := Nat.or_lt_two_pow (n := 64) (x := a) (y := b) (by simpa using ha) (by simpa using hb)
    simpa using this
  intro i
  match i with
  | 0 => exact e (h 0) (h' 0)
  | 1 => exact e (h 1) (h' 1)
  | 2 => exact e (h 2) (h' 2)
  | 3 => exact e (h 3) (h' 3)
  | i + 4 => simp [orW]
theorem rangeL_words (lo n : Nat) : Words (rangeL lo n) := fun i => rangeL_lt lo n i

theorem unc_cls (l : List Nat) (more : List UInt8) : ∀ (k f F : Nat) (acc : List Nat), f ≤ 256 → 257 ≤ k + f → (clsT l k (fstB l f)).length < F → Words acc → acc.length = 4 →
    ∃ o, unc F (clsT l k (fstB l f) ++ 93 :: more) acc = some (o, (clsT l k (fstB l f)).length + 1) ∧ o.length = 4 ∧ Words o ∧ ∀ j, j < 256 → hasN o j = (hasN acc j || (decide (f ≤ j) && hasN l j))
  | 0, f, F, acc, hf, hk, _, _, _ => by omega
  | k + 1, f, F, acc, hf, hk, hF, hw, ha => by
    have hfst := fstB_is l f hf
    obtain ⟨F', rfl⟩ : ∃ F', F = F' + 1 := ⟨F - 1, by omega⟩
    rw [clsT] at hF ⊢
    rcases hfst with ⟨b, e, h1, h2, h3, h4⟩ | ⟨e, h1⟩
    · rw [e] at hF ⊢
      rw [if_neg (by omega)] at hF ⊢
      rw [show (b : Int).toNat = b from rfl] at hF ⊢
      obtain ⟨r1, r2, r3, r4⟩ := runB_is l b (by omega)
      generalize runB l b = h at r1 r2 r3 r4 hF ⊢
      have hd := clsT_head l more k (h + 1) (by omega)
      have ih := fun F acc => unc_cls l more k (h + 1) F acc (by omega) (by omega)
      obtain ⟨_, b2, b3, _, b5⟩ := enc_c b h2
      have hin : ∀ j, j < 256 → (decide (b ≤ j ∧ j < b + (h + 1 - b)) || (decide (h + 1 ≤ j) && hasN l j)) = (decide (f ≤ j) && hasN l j) := fun j hj => by
        rcases Nat.lt_or_ge j b with c1 | c1
        · have a1 : ¬ (b ≤ j ∧ j < b + (h + 1 - b)) := by omega
          have a2 : ¬ (h + 1 ≤ j) := by omega
          rw [decide_eq_false a1, decide_eq_false a2]
          rcases Nat.lt_or_ge j f with c2 | c2
          · have a3 : ¬ (f ≤ j) := by omega
            rw [decide_eq_false a3]; rfl
          · rw [h4 j c2 c1]; simp
        · rcases Nat.lt_or_ge h j with c2 | c2
          · have a1 : ¬ (b ≤ j ∧ j < b + (h + 1 - b)) := by omega
            rw [decide_eq_false a1, decide_eq_true (show h + 1 ≤ j by omega), decide_eq_true (show f ≤ j by omega)]; simp
          · have a1 : b ≤ j ∧ j < b + (h + 1 - b) := by omega
            have a2 : hasN l j = true := by
              rcases Nat.eq_or_lt_of_le c1 with c3 | c3
              · rw [← c3]; exact h3
              · exact r3 j c3 c2
            rw [decide_eq_true a1, a2, decide_eq_true (show f ≤ j by omega)]; simp
      unfold piece at hF ⊢
      by_cases c1 : h = b + 1
      · rw [if_pos c1] at hF ⊢
        obtain ⟨_, k2, k3, _, k5⟩ := enc_c h (by omega)
        simp only [List.length_append] at hF
        obtain ⟨F2, rfl⟩ : ∃ F2, F' = F2 + 1 := ⟨F' - 1, by omega⟩
        obtain ⟨o, ho, h6, h7, h8⟩ := ih F2 (orW (orW acc (rangeL b 1)) (rangeL h 1)) (by omega) (orW_words (orW_words hw (rangeL_words _ _)) (rangeL_words _ _)) rfl
        refine ⟨o, ?_, h6, h7, fun j hj => ?_⟩
        · rw [List.append_assoc, List.append_assoc, unc_one _ h2 _ (by rw [bt_app k5]; exact k3), unc_one _ (by omega) _ hd.1, ho]
          simp only [Option.map_some, List.length_append]
          congr 2
          omega
        · rw [h8 j hj, ← hin j hj, orW_has _ _ hj, orW_has _ _ hj, rangeL_has _ _ (by omega) j hj, rangeL_has _ _ (by omega) j hj]
          rw [Bool.eq_iff_iff]
          simp only [Bool.or_eq_true, Bool.and_eq_true, decide_eq_true_iff]
          constructor
          · rintro (((h9 | h9) | h9) | h9)
            · exact .inl h9
            · exact .inr (.inl (by omega))
            · exact .inr (.inl (by omega))
            · exact .inr (.inr h9)
          · rintro (h9 | h9 | h9)
            · exact .inl (.inl (.inl h9))
            · rcases Nat.lt_or_ge j h with c | c
              · exact .inl (.inl (.inr (by omega)))
              · exact .inl (.inr (by omega))
            · exact .inr h9
      · rw [if_neg c1] at hF ⊢
        by_cases c2 : b < h
        · rw [if_pos c2] at hF ⊢
          simp only [List.length_append, List.length_cons] at hF
          obtain ⟨o, ho, h6, h7, h8⟩ := ih F' (orW acc (rangeL b (h + 1 - b))) (by omega) (orW_words hw (rangeL_words _ _)) rfl
          refine ⟨o, ?_, h6, h7, fun j hj => ?_⟩
          · rw [List.append_assoc, List.append_assoc, List.cons_append, unc_two _ h2 (by omega) c2, ho]
            simp only [Option.map_some, List.length_append, List.length_cons]
            congr 2
            omega
          · rw [h8 j hj, ← hin j hj, orW_has _ _ hj, rangeL_has _ _ (by omega) j hj, Bool.or_assoc]
        · rw [if_neg c2] at hF ⊢
          obtain rfl : h = b := by omega
          simp only [List.append_nil, List.length_append] at hF ⊢
          obtain ⟨o, ho, h6, h7, h8⟩ := ih F' (orW acc (rangeL h 1)) (by omega) (orW_words hw (rangeL_words _ _)) rfl
          refine ⟨o, ?_, h6, h7, fun j hj => ?_⟩
          · rw [List.append_assoc, unc_one _ h2 _ hd.1, ho]
            simp only [Option.map_some]
            congr 2
          · rw [h8 j hj, ← hin j hj, orW_has _ _ hj, rangeL_has _ _ (by omega) j hj, Bool.or_assoc, show h + 1 - h = 1 from by omega]
    · rw [e, if_pos (by omega)]
      refine ⟨acc, ?_, ha, hw, fun j hj => ?_⟩
      · show unc (F' + 1) (93 :: more) acc = _
        rw [unc.eq_def]
        dsimp only
        rw [if_pos (by rfl)]
        rfl
      · rcases Nat.lt_or_ge j f with c | c
        · rw [decide_eq_false (show ¬ f ≤ j by omega)]; simp
        · rw [h1 j c hj]; simp

/-- what was written is read as it was -/
theorem unc_back (l : List Nat) (hl : l.length = 4) (hw : Words l) (more : List UInt8) (F : Nat) (hF : (clsT l 257 (fstB l 0)).length < F) :
    unc F (clsT l 257 (fstB l 0) ++ 93 :: more) [0, 0, 0, 0] = some (l, (clsT l 257 (fstB l 0)).length + 1) := by
  obtain ⟨o, ho, h1, h2, h3⟩ := unc_cls l more 257 0 F [0, 0, 0, 0] (by omega) (by omega) hF (fun i => by
    match i with
    | 0 => simp
    | 1 => simp
    | 2 => simp
    | 3 => simp
    | i + 4 => simp) rfl
  have : o = l := words_eq h1 hl h2 hw fun j hj => by
    rw [h3 j hj]
    have := rangeL_has 0 0 (by omega) j hj
    rw [rangeL] at this
    rw [this, decide_eq_false (by omega)]
    simp
  rw [ho, this]
end Go.Proofs.YtndhbdbfjkmloaaDoor
namespace Go.Proofs.YtndhbdbfjkmloaaDoor
open Go.RowKit

/-- no letter and no digit ahead -/
def Sep (r : List UInt8) : Prop := isLD (bt r 0) = false
/-- neither a blank nor a remark ahead -/
def Solid (l : List UInt8) : Prop := skipL false l = l
theorem solid_cons {c : UInt8} {l : List UInt8} (h : c ≠ 32 ∧ c ≠ 9 ∧ c ≠ 10 ∧ c ≠ 13 ∧ c ≠ 35) : Solid (c :: l) := by
  unfold Solid
  rw [skipL, if_neg (by simp [h]), if_neg h.2.2.2.2]
theorem skip_32 (l : List UInt8) : skipL false (32 :: l) = skipL false l := by rw [skipL, if_pos (.inl rfl)]
theorem let_not : ∀ n : Fin 256, isLet n.val = true → n.val ≠ 39 ∧ n.val ≠ 34 ∧ n.val ≠ 91 ∧ n.val ≠ 46 ∧ n.val ≠ 40 ∧ n.val ≠ 41 ∧ n.val ≠ 47 ∧ n.val ≠ 38 ∧ n.val ≠ 33 ∧ n.val ≠ 63 ∧ n.val ≠ 42 ∧ n.val ≠ 43 ∧ n.val ≠ 60 ∧ n.val ≠ 32 ∧ n.val ≠ 9 ∧ n.val ≠ 10 ∧ n.val ≠ 13 ∧ n.val ≠ 35 := by decide +kernel
theorem ne_u8 {c d : UInt8} (h : c.toNat ≠ d.toNat) : c ≠ d := fun e => h (by rw [e])
theorem nameL_app {r : List UInt8} (hr : Sep r) : ∀ t : List UInt8, (∀ c ∈ t, isLD c.toNat = true) → nameL (t ++ r) = t.length
  | [], _ => by
    cases r with
    | nil => rfl
    | cons c r =>
      have : isLD c.toNat = false := hr
      rw [List.nil_append, nameL, if_neg (by rw [this]; decide)]
      rfl
  | c :: t, h => by
    rw [List.cons_append, nameL, if_pos (h c (.head _)), nameL_app hr t fun d hd => h d (.tail _ hd)]
    rfl
theorem name_parts {t : List UInt8} (h : nameB t = true) : ∃ c r, t = c :: r ∧ isLet c.toNat = true ∧ ∀ d ∈ t, isLD d.toNat = true := by
  unfold nameB at h
  simp only [Bool.and_eq_true, decide_eq_true_iff, List.all_eq_true, List.mem_range] at h
  obtain ⟨⟨h1, h2⟩, h3⟩ := h
  cases t with
  | nil => exact absurd rfl h1
  | cons c r =>
    refine ⟨c, r, rfl, ?_, fun d hd => ?_⟩
    · have := h3 0 (by simp)
      unfold nameAt at this
      simpa [bt] using this
    · obtain ⟨i, hi⟩ := List.getElem?_of_mem hd
      have hil := getElem?_lt hi
      have := h3 i hil
      have hb : bt (c :: r) i = d.toNat := by unfold bt; rw [List.getD_eq_getElem?_getD, hi]; rfl
      unfold nameAt at this
      rw [hb] at this
      unfold isLD
      simp only [Bool.or_eq_true, Bool.and_eq_true] at this ⊢
      rcases this with h | h
      · exact .inl h
      · exact .inr h.2
theorem tok_name {t r : List UInt8} (h : nameB t = true) (hr : Sep r) : tokL (t ++ r) = .nd (eRef t) t.length ∧ Solid (t ++ r) := by
  obtain ⟨c, t', rfl, hc, hall⟩ := name_parts h
  have hn := let_not ⟨c.toNat, c.toNat_lt⟩ hc
  have hne : ∀ d : UInt8, c.toNat ≠ d.toNat → c ≠ d := fun d => ne_u8
  obtain ⟨n1, n2, n3, n4, n5, n6, n7, n8, n9, n10, n11, n12, n13, n14, n15, n16, n17, n18⟩ := hn
  have m1 := hne 39 n1; have m2 := hne 34 n2; have m3 := hne 91 n3; have m4 := hne 46 n4; have m5 := hne 40 n5; have m6 := hne 41 n6; have m7 := hne 47 n7; have m8 := hne 38 n8; have m9 := hne 33 n9; have m10 := hne 63 n10; have m11 := hne 42 n11; have m12 := hne 43 n12; have m13 := hne 60 n13
  have m14 := hne 32 n14; have m15 := hne 9 n15; have m16 := hne 10 n16; have m17 := hne 13 n17; have m18 := hne 35 n18
  have hl := nameL_app hr (c :: t') hall
  refine ⟨?_, solid_cons ⟨m14, m15, m16, m17, m18⟩⟩
  rw [List.cons_append] at hl ⊢
  rw [tokL, if_neg (by simp [m1, m2]), if_neg m3, if_neg m4, if_neg (by simp [m5, m6, m7, m8, m9, m10, m11, m12]), if_neg (by simp [m13]), if_pos hc, hl]
  rw [← List.cons_append, List.take_left]
theorem tok_lit (s r : List UInt8) : tokL (litL s ++ r) = .nd (if s = [] then eNil else eLit s) (litL s).length ∧ Solid (litL s ++ r) := by
  have e : litL s ++ r = 39 :: (encAll false s ++ 39 :: r) := by unfold litL; simp
  rw [e]
  refine ⟨?_, solid_cons (by decide)⟩
  rw [tokL, if_pos (.inl rfl), show (39 : UInt8).toNat = 39 from rfl, unl_enc r s _ (by simp; omega)]
  simp only
  congr 1
  unfold litL
  simp
theorem tok_cls {w : List Nat} (hl : w.length = 4) (hw : Words w) (r : List UInt8) : tokL (clsAll w ++ r) = .nd (eSet w) (clsAll w).length ∧ Solid (clsAll w ++ r) := by
  have e : clsAll w ++ r = 91 :: (clsT w 257 (fstB w 0) ++ 93 :: r) := by unfold clsAll; simp
  rw [e]
  refine ⟨?_, solid_cons (by decide)⟩
  rw [tokL, if_neg (by decide), if_pos rfl, if_neg (clsT_head w r 257 0 (by omega)).2, unc_back w hl hw r _ (by simp; omega)]
  simp only
  congr 1
  unfold clsAll
  simp
theorem tok_any (r : List UInt8) : tokL (46 :: r) = .nd eAny 1 ∧ Solid (46 :: r) := ⟨by rfl, solid_cons (by decide)⟩
theorem tok_sg {c : UInt8} (hc : c = 40 ∨ c = 41 ∨ c = 47 ∨ c = 38 ∨ c = 33 ∨ c = 63 ∨ c = 42 ∨ c = 43) (r : List UInt8) : tokL (c :: r) = .sg c.toNat 1 ∧ Solid (c :: r) := by
  rcases hc with rfl | rfl | rfl | rfl | rfl | rfl | rfl | rfl
  all_goals exact ⟨by rfl, solid_cons (by decide)⟩

/-- what may follow -/
structure Fol (r : List UInt8) : Prop where
  sep : Sep r
  tok : (tokL (skipL false r)).isBad = false
  na : (skipL false r).take 2 ≠ [60, 45]
def NoPost (l : List UInt8) : Prop := ∀ c n, tokL l = .sg c n → c ≠ 63 ∧ c ≠ 42 ∧ c ≠ 43
def NoSl (l : List UInt8) : Prop := ∀ c n, tokL l = .sg c n → c ≠ 47
theorem sep_nil : Sep [] := (by decide : isLD 0 = false)
theorem sep_32 (l : List UInt8) : Sep (32 :: l) := (by decide : isLD 32 = false)
theorem Fol.nil : Fol [] := ⟨sep_nil, rfl, by decide⟩
theorem Fol.sg {c : UInt8} (hc : c = 40 ∨ c = 41 ∨ c = 47 ∨ c = 38 ∨ c = 33 ∨ c = 63 ∨ c = 42 ∨ c = 43) (r : List UInt8) : Fol (c :: r) := by
  obtain ⟨h1, h2⟩ := tok_sg hc r
  refine ⟨?_, by rw [h2, h1]; rfl, ?_⟩
  · unfold Sep
    show isLD c.toNat = false
    rcases hc with rfl | rfl | rfl | rfl | rfl | rfl | rfl | rfl <;> decide
  · rw [h2]
    intro e
    rw [List.take_succ_cons] at e
    injection e with e _
    rcases hc with rfl | rfl | rfl | rfl | rfl | rfl | rfl | rfl <;> exact absurd e (by decide)
theorem tok_lt (r : List UInt8) : tokL (60 :: 45 :: r) = .sg 60 2 := by rfl
/-- where an expression begins there is no arrow, nor what stands behind one -/
theorem beg_what {h : Bool} {l : List UInt8} (hb : begL h l = true) : (tokL l).isBad = false ∧ l.take 2 ≠ [60, 45] ∧ NoPost l ∧ NoSl l ∧ ∀ c n, tokL l = .sg c n → c ≠ 41 := by
  have key : (∃ e n, tokL l = .nd e n) ∨ ∃ c n, tokL l = .sg c n ∧ (c = 40 ∨ c = 38 ∨ c = 33) := by
    unfold begL at hb
    cases ht : tokL l with
    | nd e n => exact .inl ⟨e, n, rfl⟩
    | sg c n => rw [ht] at hb; exact .inr ⟨c, n, rfl, by simpa using hb⟩
    | fin => rw [ht] at hb; cases hb
    | bad => rw [ht] at hb; cases hb
  refine ⟨?_, fun e => ?_, fun c n hc => ?_, fun c n hc => ?_, fun c n hc => ?_⟩
  · rcases key with ⟨e, n, h⟩ | ⟨c, n, h, _⟩ <;> rw [h] <;> rfl
  · obtain ⟨r, rfl⟩ : ∃ r, l = 60 :: 45 :: r := by
      match l, e with
      | c :: d :: r, e =>
        simp only [List.take_succ_cons, List.take_zero, List.cons.injEq, and_true] at e
        exact ⟨r, by rw [e.1, e.2]⟩
      | [c], e => simp at e
      | [], e => simp at e
    rw [tok_lt] at key
    rcases key with ⟨e, n, h⟩ | ⟨c, n, h, hc⟩
    · cases h
    · injection h with h1 h2
      omega
  all_goals
    rcases key with ⟨e, n, h⟩ | ⟨c', n', h, h'⟩
    · rw [h] at hc; cases hc
    · rw [h] at hc
      injection hc with e1 e2
      omega
theorem beg_sg {h : Bool} {l : List UInt8} {c n : Nat} (ht : tokL l = .sg c n) (hc : c = 40 ∨ c = 38 ∨ c = 33) : begL h l = true := by
  unfold begL
  rw [ht]
  simpa using hc
theorem beg_sg_no {h : Bool} {l : List UInt8} {c n : Nat} (ht : tokL l = .sg c n) (hc : ¬ (c = 40 ∨ c = 38 ∨ c = 33)) : begL h l = false := by
  unfold begL
  rw [ht]
  simpa using hc
theorem go_left (p r : List UInt8) : goL (p ++ r) p.length = skipL false r := by unfold goL; rw [List.drop_left]
/-! steps of reading -/
section
variable {h : Bool} {l l1 l2 : List UInt8} {e : Ex} {R : Rs} {acc : List Ex}
theorem then_ok {n : Nat} {k : List UInt8 → Option Rs} (hb : (tokL (goL l n)).isBad = false) : thenGo l n k = k (goL l n) := by
  unfold thenGo
  rw [if_neg (by rw [hb]; decide)]
theorem Rd.two {j j' : Pj} {l l' : List UInt8} {R R' : Rs} (h1 : Rd h j l R) (h2 : Rd h j' l' R') : ∃ f, rdJ h f j l = some R ∧ rdJ h f j' l' = some R' := by
  obtain ⟨f, hf⟩ := h1
  obtain ⟨f', hf'⟩ := h2
  exact ⟨max f f', rdJ_le (Nat.le_max_left _ _) hf, rdJ_le (Nat.le_max_right _ _) hf'⟩
theorem Rd.alt (h1 : Rd h .seq l (.ok e l1)) (h2 : Rd h (.altL [e]) l1 R) : Rd h .alt l R := by
  obtain ⟨f, a, b⟩ := h1.two h2
  exact ⟨f + 1, by rw [rdJ, a]; exact b⟩
theorem Rd.seq (h1 : Rd h .pre l (.ok e l1)) (h2 : Rd h (.seqL [e]) l1 R) : Rd h .seq l R := by
  obtain ⟨f, a, b⟩ := h1.two h2
  exact ⟨f + 1, by rw [rdJ, a]; exact b⟩
theorem Rd.seqEnd (hb : begL h l = false) : Rd h (.seqL acc) l (.ok (oneOr 5 acc) l) := ⟨1, by rw [rdJ, if_neg (by rw [hb]; decide)]⟩
theorem Rd.prePri (hn : ∀ c n, tokL l = .sg c n → ¬ (c = 38 ∨ c = 33)) (h1 : Rd h .pri l (.ok e l1)) (h2 : Rd h (.post e) l1 R) : Rd h .pre l R := by
  obtain ⟨f, a, b⟩ := h1.two h2
  refine ⟨f + 1, ?_⟩
  rw [rdJ]
  cases ht : tokL l with
  | sg c n => simp only; rw [if_neg (hn c n ht), a]; exact b
  | _ => simp only; rw [a]; exact b
theorem Rd.postEnd (hn : NoPost l) : Rd h (.post e) l (.ok e l) := by
  refine ⟨1, ?_⟩
  rw [rdJ]
  cases ht : tokL l with
  | sg c n =>
    have := hn c n ht
    simp only
    rw [if_neg (by omega)]
  | _ => rfl
theorem Rd.priBr {n n2 : Nat} (ht : tokL l = .sg 40 n) (hb : (tokL (goL l n)).isBad = false) (hn : ∀ c n', tokL (goL l n) = .sg c n' → c ≠ 41) (h1 : Rd h .alt (goL l n) (.ok e l2)) (h2 : tokL l2 = .sg 41 n2) (hb2 : (tokL (goL l2 n2)).isBad = false) : Rd h .pri l (.ok e (goL l2 n2)) := by
  obtain ⟨f, a⟩ := h1
  refine ⟨f + 1, ?_⟩
  rw [rdJ, if_pos (beg_sg ht (.inl rfl)), ht]
  simp only [if_true]
  rw [then_ok hb]
  have fin : (bindR (rdJ h f .alt (goL l n)) fun e l2 => match tokL l2 with
            | .sg c2 n2 => if c2 = 41 then thenGo l2 n2 fun l3 => some (.ok e l3) else some (.no l2)
            | _ => some (.no l2)) = some (.ok e (goL l2 n2)) := by
    rw [a]
    show (match tokL l2 with
            | .sg c2 n2 => if c2 = 41 then thenGo l2 n2 fun l3 => some (.ok e l3) else some (.no l2)
            | _ => some (.no l2)) = _
    rw [h2]
    simp only [if_true]
    rw [then_ok hb2]
  cases hl1 : tokL (goL l n) with
  | sg c1 n1 => simp only; rw [if_neg (hn c1 n1 hl1)]; exact fin
  | _ => exact fin
end
end Go.Proofs.YtndhbdbfjkmloaaDoor
namespace Go.Proofs.YtndhbdbfjkmloaaDoor
open Go.RowKit

/-- a right expression: each node is -/
inductive Rtx : Ex → Prop
  | mk (k a b c d : Int) (t : ByteArray) (ks : List Ex) : fitB k a b c d t.data.toList ks.length = true → U64 a → U64 b → U64 c → U64 d → (∀ e ∈ ks, Rtx e) → Rtx (.mk k a b c d t ks)
theorem fit_what {k a b c d : Int} {t : List UInt8} {n : Nat} (h : fitB k a b c d t n = true) :
    (k = 1 ∧ t = [] ∧ (a = 0 ∧ b = 0 ∧ c = 0 ∧ d = 0) ∧ n = 0) ∨ (k = 2 ∧ t = [] ∧ n = 0) ∨ (k = 3 ∧ (t ≠ [] ∧ t.length ≤ 12) ∧ (a = 0 ∧ b = 0 ∧ c = 0 ∧ d = 0) ∧ n = 0) ∨
    (k = 4 ∧ nameB t = true ∧ (a = 0 ∧ b = 0 ∧ c = 0 ∧ d = 0) ∧ n = 0) ∨ ((k = 5 ∨ k = 6) ∧ t = [] ∧ (a = 0 ∧ b = 0 ∧ c = 0 ∧ d = 0) ∧ 2 ≤ n ∧ n ≤ 8) ∨ ((7 ≤ k ∧ k ≤ 11) ∧ t = [] ∧ (a = 0 ∧ b = 0 ∧ c = 0 ∧ d = 0) ∧ n = 1) := by
  unfold fitB at h
  cases hl : lims k t with
  | none => rw [hl] at h; cases h
  | some x =>
    obtain ⟨lo, hi⟩ := x
    rw [hl] at h
    simp only [Bool.and_eq_true, Bool.or_eq_true, decide_eq_true_iff, beq_iff_eq] at h
    obtain ⟨⟨⟨h1, h2⟩, h3⟩, h4⟩ := h
    unfold lims at hl
    split at hl
    · injection hl with hl; injection hl with e1 e2; subst e1 e2
      rename_i hk
      rcases hk with hk | hk
      · left
        refine ⟨hk, ?_, ?_, by omega⟩
        · rcases h1 with h | h
          · omega
          · exact h
        · rcases h2 with h | h
          · omega
          · exact h
      · right; left
        refine ⟨hk, ?_, by omega⟩
        rcases h1 with h | h
        · omega
        · exact h
    · split at hl
      · split at hl
        · injection hl with hl; injection hl with e1 e2; subst e1 e2
          rename_i hk ht
          refine .inr (.inr (.inl ⟨hk, ht, ?_, by omega⟩))
          rcases h2 with h | h
          · omega
          · exact h
        · cases hl
      · split at hl
        · split at hl
          · injection hl with hl; injection hl with e1 e2; subst e1 e2
            rename_i hk ht
            refine .inr (.inr (.inr (.inl ⟨hk, ht, ?_, by omega⟩)))
            rcases h2 with h | h
            · omega
            · exact h
          · cases hl
        · split at hl
          · injection hl with hl; injection hl with e1 e2; subst e1 e2
            rename_i hk
            refine .inr (.inr (.inr (.inr (.inl ⟨hk, ?_, ?_, h3, h4⟩))))
            · rcases h1 with h | h
              · omega
              · exact h
            · rcases h2 with h | h
              · omega
              · exact h
          · split at hl
            · injection hl with hl; injection hl with e1 e2; subst e1 e2
              rename_i hk
              refine .inr (.inr (.inr (.inr (.inr ⟨hk, ?_, ?_, by omega⟩))))
              · rcases h1 with h | h
                · omega
                · exact h
              · rcases h2 with h | h
                · omega
                · exact h
            · cases hl
theorem text_nil {t : ByteArray} (h : t.data.toList = []) : t = ⟨#[]⟩ := by
  obtain ⟨⟨l⟩⟩ := t
  simp at h
  rw [h]
theorem text_back (t : ByteArray) : (⟨t.data.toList.toArray⟩ : ByteArray) = t := by
  obtain ⟨⟨l⟩⟩ := t
  rfl
theorem txL_map (least : Nat) : ∀ ks : List Ex, txL least ks = ks.map fun e => brk e least (txE e)
  | [] => rfl
  | e :: ks => by rw [txL, txL_map least ks]; rfl

/-- an expression's text is read as it was -/
structure Rdb (h : Bool) (e : Ex) : Prop where
  hd : ∀ r, Fol r → Solid (txE e ++ r) ∧ begL h (txE e ++ r) = true
  b : 4 ≤ lvl e.kindX → ∀ r R, Fol r → Rd h (.post e) (skipL false r) R → Rd h .pre (txE e ++ r) R
  c : 3 ≤ lvl e.kindX → ∀ r, Fol r → NoPost (skipL false r) → Rd h .pre (txE e ++ r) (.ok e (skipL false r))
  d : 2 ≤ lvl e.kindX → ∀ r, Fol r → NoPost (skipL false r) → begL h (skipL false r) = false → Rd h .seq (txE e ++ r) (.ok e (skipL false r))
  e : ∀ r, Fol r → NoPost (skipL false r) → begL h (skipL false r) = false → NoSl (skipL false r) → Rd h .alt (txE e ++ r) (.ok e (skipL false r))
section
variable {h : Bool} {e : Ex}
theorem go_one (c : UInt8) (l : List UInt8) : goL (c :: l) 1 = skipL false l := rfl
/-- in brackets -/
theorem Rdb.br (H : Rdb h e) {r : List UInt8} (hr : Fol r) : Rd h .pri (40 :: (txE e ++ [41]) ++ r) (.ok e (skipL false r)) ∧ tokL (40 :: (txE e ++ [41]) ++ r) = .sg 40 1 ∧ Solid (40 :: (txE e ++ [41]) ++ r) := by
  have el : 40 :: (txE e ++ [41]) ++ r = 40 :: (txE e ++ 41 :: r) := by simp
  rw [el]
  have f41 : Fol (41 :: r) := Fol.sg (by simp) r
  obtain ⟨t41, s41⟩ := tok_sg (c := 41) (by simp) r
  obtain ⟨t40, s40⟩ := tok_sg (c := 40) (by simp) (txE e ++ 41 :: r)
  obtain ⟨hs, hb⟩ := H.hd _ f41
  have hw := beg_what hb
  have hg : goL (40 :: (txE e ++ 41 :: r)) 1 = txE e ++ 41 :: r := by rw [go_one, hs]
  have s41' : skipL false (41 :: r) = 41 :: r := s41
  have h1 := H.e (41 :: r) f41 (fun c n hc => by rw [s41', t41] at hc; injection hc with e1 _; rw [← e1]; decide) (by rw [s41']; exact beg_sg_no t41 (by decide)) (fun c n hc => by rw [s41', t41] at hc; injection hc with e1 _; rw [← e1]; decide)
  rw [s41'] at h1
  refine ⟨?_, t40, s40⟩
  have := Rd.priBr (h := h) (l := 40 :: (txE e ++ 41 :: r)) (n := 1) (n2 := 1) (e := e) (l2 := 41 :: r) t40 (by rw [hg]; exact hw.1) (by rw [hg]; exact hw.2.2.2.2) (by rw [hg]; exact h1) t41 (by rw [go_one]; exact hr.tok)
  rw [go_one] at this
  exact this
theorem Rdb.wb (H : Rdb h e) {r : List UInt8} {R : Rs} (hr : Fol r) (hR : Rd h (.post e) (skipL false r) R) : Rd h .pre (brk e 4 (txE e) ++ r) R := by
  unfold brk
  split
  · obtain ⟨h1, h2, _⟩ := H.br hr
    exact Rd.prePri (fun c n hc => by rw [h2] at hc; injection hc with e1 _; omega) h1 hR
  · exact H.b (by omega) r R hr hR
theorem Rdb.wc (H : Rdb h e) {r : List UInt8} (hr : Fol r) (hn : NoPost (skipL false r)) : Rd h .pre (brk e 3 (txE e) ++ r) (.ok e (skipL false r)) := by
  unfold brk
  split
  · obtain ⟨h1, h2, _⟩ := H.br hr
    exact Rd.prePri (fun c n hc => by rw [h2] at hc; injection hc with e1 _; omega) h1 (Rd.postEnd hn)
  · exact H.c (by omega) r hr hn
theorem Rdb.wd (H : Rdb h e) {r : List UInt8} (hr : Fol r) (hn : NoPost (skipL false r)) (hg : begL h (skipL false r) = false) : Rd h .seq (brk e 2 (txE e) ++ r) (.ok e (skipL false r)) := by
  unfold brk
  split
  · obtain ⟨h1, h2, _⟩ := H.br hr
    exact Rd.seq (Rd.prePri (fun c n hc => by rw [h2] at hc; injection hc with e1 _; omega) h1 (Rd.postEnd hn)) (Rd.seqEnd hg)
  · exact H.d (by omega) r hr hn hg
end

/-! rows of kids -/
section
variable {h : Bool}
end

theorem flat_one (x : List UInt8) : [x].flatten = x := by simp
theorem words_of {a b c d : Int} (ha : U64 a) (hb : U64 b) (hc : U64 c) (hd : U64 d) : Words [a.toNat, b.toNat, c.toNat, d.toNat] ∧ eSet [a.toNat, b.toNat, c.toNat, d.toNat] = .mk 2 a b c d ⟨#[]⟩ [] := by
  obtain ⟨a1, a2⟩ := ha
  obtain ⟨b1, b2⟩ := hb
  obtain ⟨c1, c2⟩ := hc
  obtain ⟨d1, d2⟩ := hd
  refine ⟨fun i => ?_, ?_⟩
  · match i with
    | 0 => simp; omega
    | 1 => simp; omega
    | 2 => simp; omega
    | 3 => simp; omega
    | i + 4 => simp
  · unfold eSet
    simp [Int.toNat_of_nonneg a1, Int.toNat_of_nonneg b1, Int.toNat_of_nonneg c1, Int.toNat_of_nonneg d1]
end Go.Proofs.YtndhbdbfjkmloaaDoor
