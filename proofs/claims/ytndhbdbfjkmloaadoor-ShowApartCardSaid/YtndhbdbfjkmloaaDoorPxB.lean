/- Signs of a text, one by one: plain. -/
import Derived.Test.YtndhbdbfjkmloaaDoorPxA
import Derived.Test.YtndhbdbfjkmloaaDoorQcL
namespace Go.Proofs.YtndhbdbfjkmloaaDoor
open Go.RowKit

/-- no letter and no digit ahead -/
def Sep (r : List UInt8) : Prop := isLD (bt r 0) = false
/-- neither a blank nor a remark ahead -/
def Solid (l : List UInt8) : Prop := skipL false l = l
theorem solid_cons {c : UInt8} {l : List UInt8} (h : c ≠ 32 ∧ c ≠ 9 ∧ c ≠ 10 ∧ c ≠ 13 ∧ c ≠ 35) : Solid (c :: l) := by
  unfold Solid
  rw [skipL, if_neg (by simp [h]), if_neg h.2.2.2.2]
theorem skip_32 (l : List UInt8) : skipL false (32 :: l) = skipL false l := by rw [skipL, if_pos (.inl rfl)]
theorem solid_of {l : List UInt8} (h : l = [] ∨ ∃ c r, l = c :: r ∧ c ≠ 32 ∧ c ≠ 9 ∧ c ≠ 10 ∧ c ≠ 13 ∧ c ≠ 35) : Solid l := by
  rcases h with rfl | ⟨c, r, rfl, hc⟩
  · rfl
  · exact solid_cons hc
theorem let_not : ∀ n : Fin 256, isLet n.val = true → n.val ≠ 39 ∧ n.val ≠ 34 ∧ n.val ≠ 91 ∧ n.val ≠ 46 ∧ n.val ≠ 40 ∧ n.val ≠ 41 ∧ n.val ≠ 47 ∧ n.val ≠ 38 ∧ n.val ≠ 33 ∧ n.val ≠ 63 ∧ n.val ≠ 42 ∧ n.val ≠ 43 ∧ n.val ≠ 60 ∧ n.val ≠ 32 ∧ n.val ≠ 9 ∧ n.val ≠ 10 ∧ n.val ≠ 13 ∧ n.val ≠ 35 := by decide +kernel
theorem ne_u8 {c d : UInt8} (h : c.toNat ≠ d.toNat) : c ≠ d := fun e => h (by rw [e])
theorem nameL_app {r : List UInt8} (hr : Sep r) : ∀ t : List UInt8, (∀ c ∈ t, isLD c.toNat = true) → nameL (t ++ r) = t.length
  | [], _ => by
    cases r with
    | nil => rfl
    | cons c r =>
      have : isLD c.toNat = false := hr
      rw [List.nil_append, nameL, if_neg (by rw [this]; decide)]
      rfl
  | c :: t, h => by
    rw [List.cons_append, nameL, if_pos (h c (.head _)), nameL_app hr t fun d hd => h d (.tail _ hd)]
    rfl
theorem name_parts {t : List UInt8} (h : nameB t = true) : ∃ c r, t = c :: r ∧ isLet c.toNat = true ∧ ∀ d ∈ t, isLD d.toNat = true := by
  unfold nameB at h
  simp only [Bool.and_eq_true, decide_eq_true_iff, List.all_eq_true, List.mem_range] at h
  obtain ⟨⟨h1, h2⟩, h3⟩ := h
  cases t with
  | nil => exact absurd rfl h1
  | cons c r =>
    refine ⟨c, r, rfl, ?_, fun d hd => ?_⟩
    · have := h3 0 (by simp)
      unfold nameAt at this
      simpa [bt] using this
    · obtain ⟨i, hi⟩ := List.getElem?_of_mem hd
      have hil := getElem?_lt hi
      have := h3 i hil
      have hb : bt (c :: r) i = d.toNat := by unfold bt; rw [List.getD_eq_getElem?_getD, hi]; rfl
      unfold nameAt at this
      rw [hb] at this
      unfold isLD
      simp only [Bool.or_eq_true, Bool.and_eq_true] at this ⊢
      rcases this with h | h
      · exact .inl h
      · exact .inr h.2
theorem tok_name {t r : List UInt8} (h : nameB t = true) (hr : Sep r) : tokL (t ++ r) = .nd (eRef t) t.length ∧ Solid (t ++ r) := by
  obtain ⟨c, t', rfl, hc, hall⟩ := name_parts h
  have hn := let_not ⟨c.toNat, c.toNat_lt⟩ hc
  have hne : ∀ d : UInt8, c.toNat ≠ d.toNat → c ≠ d := fun d => ne_u8
  obtain ⟨n1, n2, n3, n4, n5, n6, n7, n8, n9, n10, n11, n12, n13, n14, n15, n16, n17, n18⟩ := hn
  have m1 := hne 39 n1; have m2 := hne 34 n2; have m3 := hne 91 n3; have m4 := hne 46 n4; have m5 := hne 40 n5; have m6 := hne 41 n6; have m7 := hne 47 n7; have m8 := hne 38 n8; have m9 := hne 33 n9; have m10 := hne 63 n10; have m11 := hne 42 n11; have m12 := hne 43 n12; have m13 := hne 60 n13
  have m14 := hne 32 n14; have m15 := hne 9 n15; have m16 := hne 10 n16; have m17 := hne 13 n17; have m18 := hne 35 n18
  have hl := nameL_app hr (c :: t') hall
  refine ⟨?_, solid_cons ⟨m14, m15, m16, m17, m18⟩⟩
  rw [List.cons_append] at hl ⊢
  rw [tokL, if_neg (by simp [m1, m2]), if_neg m3, if_neg m4, if_neg (by simp [m5, m6, m7, m8, m9, m10, m11, m12]), if_neg (by simp [m13]), if_pos hc, hl]
  rw [← List.cons_append, List.take_left]
theorem tok_lit (s r : List UInt8) : tokL (litL s ++ r) = .nd (if s = [] then eNil else eLit s) (litL s).length ∧ Solid (litL s ++ r) := by
  have e : litL s ++ r = 39 :: (encAll false s ++ 39 :: r) := by unfold litL; simp
  rw [e]
  refine ⟨?_, solid_cons (by decide)⟩
  rw [tokL, if_pos (.inl rfl), show (39 : UInt8).toNat = 39 from rfl, unl_enc r s _ (by simp; omega)]
  simp only
  congr 1
  unfold litL
  simp
theorem tok_cls {w : List Nat} (hl : w.length = 4) (hw : Words w) (r : List UInt8) : tokL (clsAll w ++ r) = .nd (eSet w) (clsAll w).length ∧ Solid (clsAll w ++ r) := by
  have e : clsAll w ++ r = 91 :: (clsT w 257 (fstB w 0) ++ 93 :: r) := by unfold clsAll; simp
  rw [e]
  refine ⟨?_, solid_cons (by decide)⟩
  rw [tokL, if_neg (by decide), if_pos rfl, if_neg (clsT_head w r 257 0 (by omega)).2, unc_back w hl hw r _ (by simp; omega)]
  simp only
  congr 1
  unfold clsAll
  simp
theorem tok_any (r : List UInt8) : tokL (46 :: r) = .nd eAny 1 ∧ Solid (46 :: r) := ⟨by rfl, solid_cons (by decide)⟩
theorem tok_sg {c : UInt8} (hc : c = 40 ∨ c = 41 ∨ c = 47 ∨ c = 38 ∨ c = 33 ∨ c = 63 ∨ c = 42 ∨ c = 43) (r : List UInt8) : tokL (c :: r) = .sg c.toNat 1 ∧ Solid (c :: r) := by
  rcases hc with rfl | rfl | rfl | rfl | rfl | rfl | rfl | rfl
  all_goals exact ⟨by rfl, solid_cons (by decide)⟩

/-- what may follow -/
structure Fol (r : List UInt8) : Prop where
  sep : Sep r
  tok : (tokL (skipL false r)).isBad = false
  na : (skipL false r).take 2 ≠ [60, 45]
def NoPost (l : List UInt8) : Prop := ∀ c n, tokL l = .sg c n → c ≠ 63 ∧ c ≠ 42 ∧ c ≠ 43
def NoSl (l : List UInt8) : Prop := ∀ c n, tokL l = .sg c n → c ≠ 47
theorem sep_nil : Sep [] := (by decide : isLD 0 = false)
theorem sep_32 (l : List UInt8) : Sep (32 :: l) := (by decide : isLD 32 = false)
theorem Fol.nil : Fol [] := ⟨sep_nil, rfl, by decide⟩
theorem Fol.sg {c : UInt8} (hc : c = 40 ∨ c = 41 ∨ c = 47 ∨ c = 38 ∨ c = 33 ∨ c = 63 ∨ c = 42 ∨ c = 43) (r : List UInt8) : Fol (c :: r) := by
  obtain ⟨h1, h2⟩ := tok_sg hc r
  refine ⟨?_, by rw [h2, h1]; rfl, ?_⟩
  · unfold Sep
    show isLD c.toNat = false
    rcases hc with rfl | rfl | rfl | rfl | rfl | rfl | rfl | rfl <;> decide
  · rw [h2]
    intro e
    rw [List.take_succ_cons] at e
    injection e with e _
    rcases hc with rfl | rfl | rfl | rfl | rfl | rfl | rfl | rfl <;> exact absurd e (by decide)
theorem tok_lt (r : List UInt8) : tokL (60 :: 45 :: r) = .sg 60 2 := by rfl
/-- where an expression begins there is no arrow, nor what stands behind one -/
theorem beg_what {h : Bool} {l : List UInt8} (hb : begL h l = true) : (tokL l).isBad = false ∧ l.take 2 ≠ [60, 45] ∧ NoPost l ∧ NoSl l ∧ ∀ c n, tokL l = .sg c n → c ≠ 41 := by
  have key : (∃ e n, tokL l = .nd e n) ∨ ∃ c n, tokL l = .sg c n ∧ (c = 40 ∨ c = 38 ∨ c = 33) := by
    unfold begL at hb
    cases ht : tokL l with
    | nd e n => exact .inl ⟨e, n, rfl⟩
    | sg c n => rw [ht] at hb; exact .inr ⟨c, n, rfl, by simpa using hb⟩
    | fin => rw [ht] at hb; cases hb
    | bad => rw [ht] at hb; cases hb
  refine ⟨?_, fun e => ?_, fun c n hc => ?_, fun c n hc => ?_, fun c n hc => ?_⟩
  · rcases key with ⟨e, n, h⟩ | ⟨c, n, h, _⟩ <;> rw [h] <;> rfl
  · obtain ⟨r, rfl⟩ : ∃ r, l = 60 :: 45 :: r := by
      match l, e with
      | c :: d :: r, e =>
        simp only [List.take_succ_cons, List.take_zero, List.cons.injEq, and_true] at e
        exact ⟨r, by rw [e.1, e.2]⟩
      | [c], e => simp at e
      | [], e => simp at e
    rw [tok_lt] at key
    rcases key with ⟨e, n, h⟩ | ⟨c, n, h, hc⟩
    · cases h
    · injection h with h1 h2
      omega
  all_goals
    rcases key with ⟨e, n, h⟩ | ⟨c', n', h, h'⟩
    · rw [h] at hc; cases hc
    · rw [h] at hc
      injection hc with e1 e2
      omega
theorem beg_sg {h : Bool} {l : List UInt8} {c n : Nat} (ht : tokL l = .sg c n) (hc : c = 40 ∨ c = 38 ∨ c = 33) : begL h l = true := by
  unfold begL
  rw [ht]
  simpa using hc
theorem beg_sg_no {h : Bool} {l : List UInt8} {c n : Nat} (ht : tokL l = .sg c n) (hc : ¬ (c = 40 ∨ c = 38 ∨ c = 33)) : begL h l = false := by
  unfold begL
  rw [ht]
  simpa using hc
theorem beg_nd {h : Bool} {l r p : List UInt8} {e : Ex} (hl : l = p ++ r) (ht : tokL l = .nd e p.length) (hr : Fol r) : begL h l = true := by
  unfold begL namesL
  rw [ht]
  simp only [Bool.not_eq_true']
  have : goL l p.length = skipL false r := by unfold goL; rw [hl, List.drop_left]
  rw [this, decide_eq_false hr.na]
  simp
theorem go_left (p r : List UInt8) : goL (p ++ r) p.length = skipL false r := by unfold goL; rw [List.drop_left]
/-- behind a blank stands what begins an expression -/
theorem Fol.blank {h : Bool} {l : List UInt8} (hs : Solid l) (hb : begL h l = true) : Fol (32 :: l) := by
  have := beg_what hb
  exact ⟨sep_32 _, by rw [skip_32, hs]; exact this.1, by rw [skip_32, hs]; exact this.2.1⟩

/-! steps of reading -/
section
variable {h : Bool} {l l1 l2 : List UInt8} {e : Ex} {R : Rs} {acc : List Ex}
theorem then_ok {n : Nat} {k : List UInt8 → Option Rs} (hb : (tokL (goL l n)).isBad = false) : thenGo l n k = k (goL l n) := by
  unfold thenGo
  rw [if_neg (by rw [hb]; decide)]
theorem Rd.two {j j' : Pj} {l l' : List UInt8} {R R' : Rs} (h1 : Rd h j l R) (h2 : Rd h j' l' R') : ∃ f, rdJ h f j l = some R ∧ rdJ h f j' l' = some R' := by
  obtain ⟨f, hf⟩ := h1
  obtain ⟨f', hf'⟩ := h2
  exact ⟨max f f', rdJ_le (Nat.le_max_left _ _) hf, rdJ_le (Nat.le_max_right _ _) hf'⟩
theorem Rd.alt (h1 : Rd h .seq l (.ok e l1)) (h2 : Rd h (.altL [e]) l1 R) : Rd h .alt l R := by
  obtain ⟨f, a, b⟩ := h1.two h2
  exact ⟨f + 1, by rw [rdJ, a]; exact b⟩
theorem Rd.altMore {n : Nat} (ht : tokL l = .sg 47 n) (hb : (tokL (goL l n)).isBad = false) (h1 : Rd h .seq (goL l n) (.ok e l1)) (h2 : Rd h (.altL (acc ++ [e])) l1 R) : Rd h (.altL acc) l R := by
  obtain ⟨f, a, b⟩ := h1.two h2
  refine ⟨f + 1, ?_⟩
  rw [rdJ, ht]
  simp only [if_true]
  rw [then_ok hb, a]
  exact b
theorem Rd.altEnd (hn : NoSl l) : Rd h (.altL acc) l (.ok (oneOr 6 acc) l) := by
  refine ⟨1, ?_⟩
  rw [rdJ]
  cases ht : tokL l with
  | sg c n => simp only; rw [if_neg (hn c n ht)]
  | _ => rfl
theorem Rd.seq (h1 : Rd h .pre l (.ok e l1)) (h2 : Rd h (.seqL [e]) l1 R) : Rd h .seq l R := by
  obtain ⟨f, a, b⟩ := h1.two h2
  exact ⟨f + 1, by rw [rdJ, a]; exact b⟩
theorem Rd.seqMore (hb : begL h l = true) (h1 : Rd h .pre l (.ok e l1)) (h2 : Rd h (.seqL (acc ++ [e])) l1 R) : Rd h (.seqL acc) l R := by
  obtain ⟨f, a, b⟩ := h1.two h2
  refine ⟨f + 1, ?_⟩
  rw [rdJ, if_pos hb, a]
  exact b
theorem Rd.seqEnd (hb : begL h l = false) : Rd h (.seqL acc) l (.ok (oneOr 5 acc) l) := ⟨1, by rw [rdJ, if_neg (by rw [hb]; decide)]⟩
theorem Rd.preOp {c n : Nat} (ht : tokL l = .sg c n) (hc : c = 38 ∨ c = 33) (hb : (tokL (goL l n)).isBad = false) (h1 : Rd h .pre (goL l n) (.ok e l1)) : Rd h .pre l (.ok (.mk (if c = 38 then 10 else 11) 0 0 0 0 ⟨#[]⟩ [e]) l1) := by
  obtain ⟨f, a⟩ := h1
  refine ⟨f + 1, ?_⟩
  rw [rdJ, ht]
  simp only
  rw [if_pos hc, then_ok hb, a]
  rfl
theorem Rd.prePri (hn : ∀ c n, tokL l = .sg c n → ¬ (c = 38 ∨ c = 33)) (h1 : Rd h .pri l (.ok e l1)) (h2 : Rd h (.post e) l1 R) : Rd h .pre l R := by
  obtain ⟨f, a, b⟩ := h1.two h2
  refine ⟨f + 1, ?_⟩
  rw [rdJ]
  cases ht : tokL l with
  | sg c n => simp only; rw [if_neg (hn c n ht), a]; exact b
  | _ => simp only; rw [a]; exact b
theorem Rd.postOp {c n : Nat} (ht : tokL l = .sg c n) (hc : c = 63 ∨ c = 42 ∨ c = 43) (hb : (tokL (goL l n)).isBad = false) (h1 : Rd h (.post (.mk (postK c) 0 0 0 0 ⟨#[]⟩ [e])) (goL l n) R) : Rd h (.post e) l R := by
  obtain ⟨f, a⟩ := h1
  refine ⟨f + 1, ?_⟩
  rw [rdJ, ht]
  simp only
  rw [if_pos hc, then_ok hb, a]
theorem Rd.postEnd (hn : NoPost l) : Rd h (.post e) l (.ok e l) := by
  refine ⟨1, ?_⟩
  rw [rdJ]
  cases ht : tokL l with
  | sg c n =>
    have := hn c n ht
    simp only
    rw [if_neg (by omega)]
  | _ => rfl
theorem Rd.priNd {n : Nat} (ht : tokL l = .nd e n) (hg : begL h l = true) (hb : (tokL (goL l n)).isBad = false) : Rd h .pri l (.ok e (goL l n)) := by
  refine ⟨1, ?_⟩
  rw [rdJ, if_pos hg, ht]
  simp only
  rw [then_ok hb]
theorem Rd.priNil {n n1 : Nat} (ht : tokL l = .sg 40 n) (h1 : tokL (goL l n) = .sg 41 n1) (hb : (tokL (goL (goL l n) n1)).isBad = false) : Rd h .pri l (.ok eNil (goL (goL l n) n1)) := by
  refine ⟨1, ?_⟩
  rw [rdJ, if_pos (beg_sg ht (.inl rfl)), ht]
  simp only [if_true]
  rw [then_ok (by rw [h1]; rfl), h1]
  simp only [if_true]
  rw [then_ok hb]
theorem Rd.priBr {n n2 : Nat} (ht : tokL l = .sg 40 n) (hb : (tokL (goL l n)).isBad = false) (hn : ∀ c n', tokL (goL l n) = .sg c n' → c ≠ 41) (h1 : Rd h .alt (goL l n) (.ok e l2)) (h2 : tokL l2 = .sg 41 n2) (hb2 : (tokL (goL l2 n2)).isBad = false) : Rd h .pri l (.ok e (goL l2 n2)) := by
  obtain ⟨f, a⟩ := h1
  refine ⟨f + 1, ?_⟩
  rw [rdJ, if_pos (beg_sg ht (.inl rfl)), ht]
  simp only [if_true]
  rw [then_ok hb]
  have fin : (bindR (rdJ h f .alt (goL l n)) fun e l2 => match tokL l2 with
            | .sg c2 n2 => if c2 = 41 then thenGo l2 n2 fun l3 => some (.ok e l3) else some (.no l2)
            | _ => some (.no l2)) = some (.ok e (goL l2 n2)) := by
    rw [a]
    show (match tokL l2 with
            | .sg c2 n2 => if c2 = 41 then thenGo l2 n2 fun l3 => some (.ok e l3) else some (.no l2)
            | _ => some (.no l2)) = _
    rw [h2]
    simp only [if_true]
    rw [then_ok hb2]
  cases hl1 : tokL (goL l n) with
  | sg c1 n1 => simp only; rw [if_neg (hn c1 n1 hl1)]; exact fin
  | _ => exact fin
end
end Go.Proofs.YtndhbdbfjkmloaaDoor
