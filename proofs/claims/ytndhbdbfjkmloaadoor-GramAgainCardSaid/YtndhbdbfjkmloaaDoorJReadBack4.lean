/- What is printed is read as it was: plain. -/
import Derived.Test.YtndhbdbfjkmloaaDoorJReadBack3
namespace Go.Proofs.YtndhbdbfjkmloaaDoor
open Go.RowKit

/-- a right expression: each node is -/
inductive Rtx : Ex → Prop
  | mk (k a b c d : Int) (t : ByteArray) (ks : List Ex) : fitB k a b c d t.data.toList ks.length = true → U64 a → U64 b → U64 c → U64 d → (∀ e ∈ ks, Rtx e) → Rtx (.mk k a b c d t ks)
theorem fit_what {k a b c d : Int} {t : List UInt8} {n : Nat} (h : fitB k a b c d t n = true) :
    (k = 1 ∧ t = [] ∧ (a = 0 ∧ b = 0 ∧ c = 0 ∧ d = 0) ∧ n = 0) ∨ (k = 2 ∧ t = [] ∧ n = 0) ∨ (k = 3 ∧ (t ≠ [] ∧ t.length ≤ 12) ∧ (a = 0 ∧ b = 0 ∧ c = 0 ∧ d = 0) ∧ n = 0) ∨
    (k = 4 ∧ nameB t = true ∧ (a = 0 ∧ b = 0 ∧ c = 0 ∧ d = 0) ∧ n = 0) ∨ ((k = 5 ∨ k = 6) ∧ t = [] ∧ (a = 0 ∧ b = 0 ∧ c = 0 ∧ d = 0) ∧ 2 ≤ n ∧ n ≤ 8) ∨ ((7 ≤ k ∧ k ≤ 11) ∧ t = [] ∧ (a = 0 ∧ b = 0 ∧ c = 0 ∧ d = 0) ∧ n = 1) := by
  unfold fitB at h
  cases hl : lims k t with
  | none => rw [hl] at h; cases h
  | some x =>
    obtain ⟨lo, hi⟩ := x
    rw [hl] at h
    simp only [Bool.and_eq_true, Bool.or_eq_true, decide_eq_true_iff, beq_iff_eq] at h
    obtain ⟨⟨⟨h1, h2⟩, h3⟩, h4⟩ := h
    unfold lims at hl
    split at hl
    · injection hl with hl; injection hl with e1 e2; subst e1 e2
      rename_i hk
      rcases hk with hk | hk
      · left
        refine ⟨hk, ?_, ?_, by omega⟩
        · rcases h1 with h | h
          · omega
          · exact h
        · rcases h2 with h | h
          · omega
          · exact h
      · right; left
        refine ⟨hk, ?_, by omega⟩
        rcases h1 with h | h
        · omega
        · exact h
    · split at hl
      · split at hl
        · injection hl with hl; injection hl with e1 e2; subst e1 e2
          rename_i hk ht
          refine .inr (.inr (.inl ⟨hk, ht, ?_, by omega⟩))
          rcases h2 with h | h
          · omega
          · exact h
        · cases hl
      · split at hl
        · split at hl
          · injection hl with hl; injection hl with e1 e2; subst e1 e2
            rename_i hk ht
            refine .inr (.inr (.inr (.inl ⟨hk, ht, ?_, by omega⟩)))
            rcases h2 with h | h
            · omega
            · exact h
          · cases hl
        · split at hl
          · injection hl with hl; injection hl with e1 e2; subst e1 e2
            rename_i hk
            refine .inr (.inr (.inr (.inr (.inl ⟨hk, ?_, ?_, h3, h4⟩))))
            · rcases h1 with h | h
              · omega
              · exact h
            · rcases h2 with h | h
              · omega
              · exact h
          · split at hl
            · injection hl with hl; injection hl with e1 e2; subst e1 e2
              rename_i hk
              refine .inr (.inr (.inr (.inr (.inr ⟨hk, ?_, ?_, by omega⟩))))
              · rcases h1 with h | h
                · omega
                · exact h
              · rcases h2 with h | h
                · omega
                · exact h
            · cases hl
theorem text_nil {t : ByteArray} (h : t.data.toList = []) : t = ⟨#[]⟩ := by
  obtain ⟨⟨l⟩⟩ := t
  simp at h
  rw [h]
theorem text_back (t : ByteArray) : (⟨t.data.toList.toArray⟩ : ByteArray) = t := by
  obtain ⟨⟨l⟩⟩ := t
  rfl
theorem txL_map (least : Nat) : ∀ ks : List Ex, txL least ks = ks.map fun e => brk e least (txE e)
  | [] => rfl
  | e :: ks => by rw [txL, txL_map least ks]; rfl

/-- an expression's text is read as it was -/
structure Rdb (h : Bool) (e : Ex) : Prop where
  hd : ∀ r, Fol r → Solid (txE e ++ r) ∧ begL h (txE e ++ r) = true
  b : 4 ≤ lvl e.kindX → ∀ r R, Fol r → Rd h (.post e) (skipL false r) R → Rd h .pre (txE e ++ r) R
  c : 3 ≤ lvl e.kindX → ∀ r, Fol r → NoPost (skipL false r) → Rd h .pre (txE e ++ r) (.ok e (skipL false r))
  d : 2 ≤ lvl e.kindX → ∀ r, Fol r → NoPost (skipL false r) → begL h (skipL false r) = false → Rd h .seq (txE e ++ r) (.ok e (skipL false r))
  e : ∀ r, Fol r → NoPost (skipL false r) → begL h (skipL false r) = false → NoSl (skipL false r) → Rd h .alt (txE e ++ r) (.ok e (skipL false r))
section
variable {h : Bool} {e : Ex}
theorem c_of_b (hb : ∀ r R, Fol r → Rd h (.post e) (skipL false r) R → Rd h .pre (txE e ++ r) R) : ∀ r, Fol r → NoPost (skipL false r) → Rd h .pre (txE e ++ r) (.ok e (skipL false r)) :=
  fun r hr hn => hb r _ hr (Rd.postEnd hn)
theorem d_of_c (hc : ∀ r, Fol r → NoPost (skipL false r) → Rd h .pre (txE e ++ r) (.ok e (skipL false r))) : ∀ r, Fol r → NoPost (skipL false r) → begL h (skipL false r) = false → Rd h .seq (txE e ++ r) (.ok e (skipL false r)) :=
  fun r hr hn hg => Rd.seq (hc r hr hn) (Rd.seqEnd hg)
theorem e_of_d (hd : ∀ r, Fol r → NoPost (skipL false r) → begL h (skipL false r) = false → Rd h .seq (txE e ++ r) (.ok e (skipL false r))) : ∀ r, Fol r → NoPost (skipL false r) → begL h (skipL false r) = false → NoSl (skipL false r) → Rd h .alt (txE e ++ r) (.ok e (skipL false r)) :=
  fun r hr hn hg hs => Rd.alt (hd r hr hn hg) (Rd.altEnd hs)
theorem Rdb.of_b (hd : ∀ r, Fol r → Solid (txE e ++ r) ∧ begL h (txE e ++ r) = true) (hb : ∀ r R, Fol r → Rd h (.post e) (skipL false r) R → Rd h .pre (txE e ++ r) R) : Rdb h e :=
  ⟨hd, fun _ => hb, fun _ => c_of_b hb, fun _ => d_of_c (c_of_b hb), e_of_d (d_of_c (c_of_b hb))⟩
theorem Rdb.of_c (hd : ∀ r, Fol r → Solid (txE e ++ r) ∧ begL h (txE e ++ r) = true) (hl : lvl e.kindX < 4) (hc : ∀ r, Fol r → NoPost (skipL false r) → Rd h .pre (txE e ++ r) (.ok e (skipL false r))) : Rdb h e :=
  ⟨hd, fun h4 => by omega, fun _ => hc, fun _ => d_of_c hc, e_of_d (d_of_c hc)⟩
theorem Rdb.of_d (hd : ∀ r, Fol r → Solid (txE e ++ r) ∧ begL h (txE e ++ r) = true) (hl : lvl e.kindX < 3) (hc : ∀ r, Fol r → NoPost (skipL false r) → begL h (skipL false r) = false → Rd h .seq (txE e ++ r) (.ok e (skipL false r))) : Rdb h e :=
  ⟨hd, fun h4 => by omega, fun h4 => by omega, fun _ => hc, e_of_d hc⟩
theorem Rdb.of_e (hd : ∀ r, Fol r → Solid (txE e ++ r) ∧ begL h (txE e ++ r) = true) (hl : lvl e.kindX < 2) (hc : ∀ r, Fol r → NoPost (skipL false r) → begL h (skipL false r) = false → NoSl (skipL false r) → Rd h .alt (txE e ++ r) (.ok e (skipL false r))) : Rdb h e :=
  ⟨hd, fun h4 => by omega, fun h4 => by omega, fun h4 => by omega, hc⟩
/-- one sign that is an expression by itself -/
theorem Rdb.of_nd (ht : ∀ r, Fol r → tokL (txE e ++ r) = .nd e (txE e).length ∧ Solid (txE e ++ r)) : Rdb h e := by
  refine Rdb.of_b (fun r hr => ⟨(ht r hr).2, beg_nd rfl (ht r hr).1 hr⟩) fun r R hr hR => ?_
  obtain ⟨h1, h2⟩ := ht r hr
  have h3 : Rd h .pri (txE e ++ r) (.ok e (goL (txE e ++ r) (txE e).length)) := Rd.priNd h1 (beg_nd rfl h1 hr) (by rw [go_left]; exact hr.tok)
  rw [go_left] at h3
  exact Rd.prePri (fun c n hc => by rw [h1] at hc; cases hc) h3 hR
theorem go_one (c : UInt8) (l : List UInt8) : goL (c :: l) 1 = skipL false l := rfl
/-- in brackets -/
theorem Rdb.br (H : Rdb h e) {r : List UInt8} (hr : Fol r) : Rd h .pri (40 :: (txE e ++ [41]) ++ r) (.ok e (skipL false r)) ∧ tokL (40 :: (txE e ++ [41]) ++ r) = .sg 40 1 ∧ Solid (40 :: (txE e ++ [41]) ++ r) := by
  have el : 40 :: (txE e ++ [41]) ++ r = 40 :: (txE e ++ 41 :: r) := by simp
  rw [el]
  have f41 : Fol (41 :: r) := Fol.sg (by simp) r
  obtain ⟨t41, s41⟩ := tok_sg (c := 41) (by simp) r
  obtain ⟨t40, s40⟩ := tok_sg (c := 40) (by simp) (txE e ++ 41 :: r)
  obtain ⟨hs, hb⟩ := H.hd _ f41
  have hw := beg_what hb
  have hg : goL (40 :: (txE e ++ 41 :: r)) 1 = txE e ++ 41 :: r := by rw [go_one, hs]
  have s41' : skipL false (41 :: r) = 41 :: r := s41
  have h1 := H.e (41 :: r) f41 (fun c n hc => by rw [s41', t41] at hc; injection hc with e1 _; rw [← e1]; decide) (by rw [s41']; exact beg_sg_no t41 (by decide)) (fun c n hc => by rw [s41', t41] at hc; injection hc with e1 _; rw [← e1]; decide)
  rw [s41'] at h1
  refine ⟨?_, t40, s40⟩
  have := Rd.priBr (h := h) (l := 40 :: (txE e ++ 41 :: r)) (n := 1) (n2 := 1) (e := e) (l2 := 41 :: r) t40 (by rw [hg]; exact hw.1) (by rw [hg]; exact hw.2.2.2.2) (by rw [hg]; exact h1) t41 (by rw [go_one]; exact hr.tok)
  rw [go_one] at this
  exact this
theorem Rdb.whd (H : Rdb h e) (least : Nat) {r : List UInt8} (hr : Fol r) : Solid (brk e least (txE e) ++ r) ∧ begL h (brk e least (txE e) ++ r) = true := by
  unfold brk
  split
  · obtain ⟨_, h2, h3⟩ := H.br hr
    exact ⟨h3, beg_sg h2 (.inl rfl)⟩
  · exact H.hd r hr
theorem Rdb.wb (H : Rdb h e) {r : List UInt8} {R : Rs} (hr : Fol r) (hR : Rd h (.post e) (skipL false r) R) : Rd h .pre (brk e 4 (txE e) ++ r) R := by
  unfold brk
  split
  · obtain ⟨h1, h2, _⟩ := H.br hr
    exact Rd.prePri (fun c n hc => by rw [h2] at hc; injection hc with e1 _; omega) h1 hR
  · exact H.b (by omega) r R hr hR
theorem Rdb.wc (H : Rdb h e) {r : List UInt8} (hr : Fol r) (hn : NoPost (skipL false r)) : Rd h .pre (brk e 3 (txE e) ++ r) (.ok e (skipL false r)) := by
  unfold brk
  split
  · obtain ⟨h1, h2, _⟩ := H.br hr
    exact Rd.prePri (fun c n hc => by rw [h2] at hc; injection hc with e1 _; omega) h1 (Rd.postEnd hn)
  · exact H.c (by omega) r hr hn
theorem Rdb.wd (H : Rdb h e) {r : List UInt8} (hr : Fol r) (hn : NoPost (skipL false r)) (hg : begL h (skipL false r) = false) : Rd h .seq (brk e 2 (txE e) ++ r) (.ok e (skipL false r)) := by
  unfold brk
  split
  · obtain ⟨h1, h2, _⟩ := H.br hr
    exact Rd.seq (Rd.prePri (fun c n hc => by rw [h2] at hc; injection hc with e1 _; omega) h1 (Rd.postEnd hn)) (Rd.seqEnd hg)
  · exact H.d (by omega) r hr hn hg
end

/-! rows of kids -/
section
variable {h : Bool}
def tailS (sep : List UInt8) (least : Nat) (ks : List Ex) (r : List UInt8) : List UInt8 := Lib.joinTail sep (txL least ks) ++ r
theorem tail_cons (sep : List UInt8) (least : Nat) (e : Ex) (ks : List Ex) (r : List UInt8) : tailS sep least (e :: ks) r = sep ++ (brk e least (txE e) ++ tailS sep least ks r) := by
  unfold tailS Lib.joinTail
  rw [txL]
  simp
theorem join_head (sep : List UInt8) (least : Nat) (e : Ex) (ks : List Ex) (r : List UInt8) : Lib.join (txL least (e :: ks)) sep ++ r = brk e least (txE e) ++ tailS sep least ks r := by
  rw [txL, Lib.join_cons]
  unfold tailS
  simp
theorem seq_tail {r : List UInt8} (hr : Fol r) (hn : NoPost (skipL false r)) (hg : begL h (skipL false r) = false) : ∀ (ks : List Ex), (∀ e ∈ ks, Rdb h e) →
    Fol (tailS [32] 3 ks r) ∧ NoPost (skipL false (tailS [32] 3 ks r)) ∧ ∀ acc, Rd h (.seqL acc) (skipL false (tailS [32] 3 ks r)) (.ok (oneOr 5 (acc ++ ks)) (skipL false r))
  | [], _ => ⟨hr, hn, fun acc => by rw [List.append_nil]; exact Rd.seqEnd hg⟩
  | e :: ks, H => by
    obtain ⟨f1, n1, i1⟩ := seq_tail hr hn hg ks fun e he => H e (.tail _ he)
    have He := H e (.head _)
    obtain ⟨hs, hb⟩ := He.whd 3 f1
    rw [tail_cons]
    show Fol (32 :: (brk e 3 (txE e) ++ tailS [32] 3 ks r)) ∧ NoPost (skipL false (32 :: (brk e 3 (txE e) ++ tailS [32] 3 ks r))) ∧ ∀ acc, Rd h (.seqL acc) (skipL false (32 :: (brk e 3 (txE e) ++ tailS [32] 3 ks r))) _
    rw [skip_32, hs]
    refine ⟨Fol.blank hs hb, (beg_what hb).2.2.1, fun acc => ?_⟩
    have := i1 (acc ++ [e])
    rw [List.append_assoc] at this
    exact Rd.seqMore hb (He.wc f1 n1) this
theorem alt_tail {r : List UInt8} (hr : Fol r) (hn : NoPost (skipL false r)) (hg : begL h (skipL false r) = false) (hs0 : NoSl (skipL false r)) : ∀ (ks : List Ex), (∀ e ∈ ks, Rdb h e) →
    Fol (tailS [32, 47, 32] 2 ks r) ∧ NoPost (skipL false (tailS [32, 47, 32] 2 ks r)) ∧ begL h (skipL false (tailS [32, 47, 32] 2 ks r)) = false ∧ ∀ acc, Rd h (.altL acc) (skipL false (tailS [32, 47, 32] 2 ks r)) (.ok (oneOr 6 (acc ++ ks)) (skipL false r))
  | [], _ => ⟨hr, hn, hg, fun acc => by rw [List.append_nil]; exact Rd.altEnd hs0⟩
  | e :: ks, H => by
    obtain ⟨f1, n1, g1, i1⟩ := alt_tail hr hn hg hs0 ks fun e he => H e (.tail _ he)
    have He := H e (.head _)
    obtain ⟨hs, hb⟩ := He.whd 2 f1
    rw [tail_cons]
    have e0 : ([32, 47, 32] : List UInt8) ++ (brk e 2 (txE e) ++ tailS [32, 47, 32] 2 ks r) = 32 :: 47 :: 32 :: (brk e 2 (txE e) ++ tailS [32, 47, 32] 2 ks r) := rfl
    rw [e0]
    generalize hX : brk e 2 (txE e) ++ tailS [32, 47, 32] 2 ks r = X at hs hb
    obtain ⟨t47, s47⟩ := tok_sg (c := 47) (by simp) (32 :: X)
    have s47' : skipL false (47 :: 32 :: X) = 47 :: 32 :: X := s47
    have hf : Fol (32 :: 47 :: 32 :: X) := by
      refine ⟨sep_32 _, by rw [skip_32, s47', t47]; rfl, ?_⟩
      rw [skip_32, s47']
      simp
    rw [skip_32, s47']
    refine ⟨hf, fun c n hc => by rw [t47] at hc; injection hc with e1 _; rw [← e1]; decide, beg_sg_no t47 (by decide), fun acc => ?_⟩
    have := i1 (acc ++ [e])
    rw [List.append_assoc] at this
    have hgo : goL (47 :: 32 :: X) 1 = X := by rw [go_one, skip_32, hs]
    refine Rd.altMore (n := 1) t47 (by rw [hgo]; exact (beg_what hb).1) ?_ this
    rw [hgo, ← hX]
    exact He.wd f1 n1 g1
end

theorem kind_lvl {k : Int} : lvl k = if k = 6 then 1 else if k = 5 then 2 else if k = 10 ∨ k = 11 then 3 else if k = 7 ∨ k = 8 ∨ k = 9 then 4 else 5 := rfl
theorem flat_one (x : List UInt8) : [x].flatten = x := by simp
theorem words_of {a b c d : Int} (ha : U64 a) (hb : U64 b) (hc : U64 c) (hd : U64 d) : Words [a.toNat, b.toNat, c.toNat, d.toNat] ∧ eSet [a.toNat, b.toNat, c.toNat, d.toNat] = .mk 2 a b c d ⟨#[]⟩ [] := by
  obtain ⟨a1, a2⟩ := ha
  obtain ⟨b1, b2⟩ := hb
  obtain ⟨c1, c2⟩ := hc
  obtain ⟨d1, d2⟩ := hd
  refine ⟨fun i => ?_, ?_⟩
  · match i with
    | 0 => simp; omega
    | 1 => simp; omega
    | 2 => simp; omega
    | 3 => simp; omega
    | i + 4 => simp
  · unfold eSet
    simp [Int.toNat_of_nonneg a1, Int.toNat_of_nonneg b1, Int.toNat_of_nonneg c1, Int.toNat_of_nonneg d1]
/-- what is printed is read as it was -/
theorem rdb (h : Bool) (e : Ex) : Rtx e → Rdb h e := by
  induction e using Ex.ind with
  | h k a b c d t ks ih =>
    intro hR
    cases hR with
    | mk _ _ _ _ _ _ _ hf ha hb hc hd hks =>
    have IH : ∀ e ∈ ks, Rdb h e := fun e he => ih e he (hks e he)
    rcases fit_what hf with ⟨rfl, ht, ⟨rfl, rfl, rfl, rfl⟩, hn⟩ | ⟨rfl, ht, hn⟩ | ⟨rfl, ht, ⟨rfl, rfl, rfl, rfl⟩, hn⟩ | ⟨rfl, ht, ⟨rfl, rfl, rfl, rfl⟩, hn⟩ | ⟨hk, ht, ⟨rfl, rfl, rfl, rfl⟩, hn, hn8⟩ | ⟨hk, ht, ⟨rfl, rfl, rfl, rfl⟩, hn⟩
    · -- ()
      obtain rfl := text_nil ht
      obtain rfl := List.eq_nil_of_length_eq_zero hn
      have htx : txE (.mk 1 0 0 0 0 ⟨#[]⟩ []) = [40, 41] := by rw [txE]; rfl
      have key : ∀ r, Fol r → tokL (40 :: 41 :: r) = .sg 40 1 ∧ Solid (40 :: 41 :: r) ∧ Rd h .pri (40 :: 41 :: r) (.ok eNil (skipL false r)) := fun r hr => by
        obtain ⟨t40, s40⟩ := tok_sg (c := 40) (by simp) (41 :: r)
        obtain ⟨t41, s41⟩ := tok_sg (c := 41) (by simp) r
        have hg : goL (40 :: 41 :: r) 1 = 41 :: r := by rw [go_one]; exact s41
        have := Rd.priNil (h := h) (l := 40 :: 41 :: r) (n := 1) (n1 := 1) t40 (by rw [hg]; exact t41) (by rw [hg, go_one]; exact hr.tok)
        rw [hg, go_one] at this
        exact ⟨t40, s40, this⟩
      refine Rdb.of_b (fun r hr => ?_) fun r R hr hR => ?_
      · rw [htx]
        exact ⟨(key r hr).2.1, beg_sg (key r hr).1 (.inl rfl)⟩
      · rw [htx]
        obtain ⟨h1, _, h3⟩ := key r hr
        exact Rd.prePri (fun c n hc => by rw [show ([40, 41] : List UInt8) ++ r = 40 :: 41 :: r from rfl, h1] at hc; injection hc with e1 _; omega) h3 hR
    · obtain rfl := text_nil ht
      obtain rfl := List.eq_nil_of_length_eq_zero hn
      refine Rdb.of_nd fun r hr => ?_
      rw [txE, if_neg (by decide), if_pos rfl]
      split
      · rename_i hM
        obtain ⟨rfl, rfl, rfl, rfl⟩ := hM
        exact tok_any r
      · obtain ⟨hw, he⟩ := words_of ha hb hc hd
        have := tok_cls (w := [a.toNat, b.toNat, c.toNat, d.toNat]) rfl hw r
        rw [he] at this
        exact this
    · obtain rfl := List.eq_nil_of_length_eq_zero hn
      refine Rdb.of_nd fun r hr => ?_
      rw [txE, if_neg (by decide), if_neg (by decide), if_pos rfl]
      have := tok_lit t.data.toList r
      rw [if_neg ht.1] at this
      unfold eLit at this
      rw [text_back] at this
      exact this
    · obtain rfl := List.eq_nil_of_length_eq_zero hn
      refine Rdb.of_nd fun r hr => ?_
      rw [txE, if_neg (by decide), if_neg (by decide), if_neg (by decide), if_pos rfl]
      have := tok_name ht hr.sep
      unfold eRef at this
      rw [text_back] at this
      exact this
    · obtain rfl := text_nil ht
      match ks, hn, IH with
      | e0 :: e1 :: ks, hn, IH =>
        have H0 := IH e0 (.head _)
        have Hr : ∀ e ∈ e1 :: ks, Rdb h e := fun e he => IH e (.tail _ he)
        rcases hk with rfl | rfl
        · have htx : txE (.mk 5 0 0 0 0 ⟨#[]⟩ (e0 :: e1 :: ks)) = Lib.join (txL 3 (e0 :: e1 :: ks)) [32] := by
            rw [txE]
            simp only [Int.reduceEq, if_false]
          have hfol : ∀ r, Fol r → Fol (tailS [32] 3 (e1 :: ks) r) := fun r hr => by
            have key : ∀ ks : List Ex, (∀ e ∈ ks, Rdb h e) → Fol (tailS [32] 3 ks r) := by
              intro ks
              induction ks with
              | nil => intro _; exact hr
              | cons e ks ih2 =>
                intro H
                obtain ⟨hs, hb⟩ := (H e (.head _)).whd 3 (ih2 fun e he => H e (.tail _ he))
                rw [tail_cons]
                exact Fol.blank hs hb
            exact key _ Hr
          refine Rdb.of_d (fun r hr => ?_) (by simp [Ex.kindX, lvl]) fun r hr hnp hg => ?_
          · rw [htx, join_head]
            exact H0.whd 3 (hfol r hr)
          · rw [htx, join_head]
            obtain ⟨f1, n1, i1⟩ := seq_tail hr hnp hg (e1 :: ks) Hr
            exact Rd.seq (H0.wc f1 n1) (i1 [e0])
        · have htx : txE (.mk 6 0 0 0 0 ⟨#[]⟩ (e0 :: e1 :: ks)) = Lib.join (txL 2 (e0 :: e1 :: ks)) [32, 47, 32] := by
            rw [txE]
            simp only [Int.reduceEq, if_false, if_true]
          have hfol : ∀ r, Fol (tailS [32, 47, 32] 2 (e1 :: ks) r) := fun r => by
            rw [tail_cons]
            have e0 : ([32, 47, 32] : List UInt8) ++ (brk e1 2 (txE e1) ++ tailS [32, 47, 32] 2 ks r) = 32 :: 47 :: 32 :: (brk e1 2 (txE e1) ++ tailS [32, 47, 32] 2 ks r) := rfl
            rw [e0]
            obtain ⟨t47, s47⟩ := tok_sg (c := 47) (by simp) (32 :: (brk e1 2 (txE e1) ++ tailS [32, 47, 32] 2 ks r))
            refine ⟨sep_32 _, by rw [skip_32, s47, t47]; rfl, ?_⟩
            rw [skip_32, s47]
            simp
          refine Rdb.of_e (fun r hr => ?_) (by simp [Ex.kindX, lvl]) fun r hr hnp hg hsl => ?_
          · rw [htx, join_head]
            exact H0.whd 2 (hfol r)
          · rw [htx, join_head]
            obtain ⟨f1, n1, g1, i1⟩ := alt_tail hr hnp hg hsl (e1 :: ks) Hr
            exact Rd.alt (H0.wd f1 n1 g1) (i1 [e0])
    · obtain rfl := text_nil ht
      obtain ⟨e0, rfl⟩ : ∃ e0, ks = [e0] := by
        match ks, hn with
        | [e0], _ => exact ⟨e0, rfl⟩
      have H0 := IH e0 (.head _)
      have post : ∀ (k : Int) (c : UInt8), (c = 63 ∨ c = 42 ∨ c = 43) → postK c.toNat = k → lvl k = 4 → txE (.mk k 0 0 0 0 ⟨#[]⟩ [e0]) = (txL 4 [e0]).flatten ++ [c] → Rdb h (.mk k 0 0 0 0 ⟨#[]⟩ [e0]) := by
        intro k c hc hk hl htx
        have hc8 : c = 40 ∨ c = 41 ∨ c = 47 ∨ c = 38 ∨ c = 33 ∨ c = 63 ∨ c = 42 ∨ c = 43 := by
          rcases hc with h | h | h
          · exact .inr (.inr (.inr (.inr (.inr (.inl h)))))
          · exact .inr (.inr (.inr (.inr (.inr (.inr (.inl h))))))
          · exact .inr (.inr (.inr (.inr (.inr (.inr (.inr h))))))
        have hcn : c.toNat = 63 ∨ c.toNat = 42 ∨ c.toNat = 43 := by
          rcases hc with rfl | rfl | rfl
          · exact .inl rfl
          · exact .inr (.inl rfl)
          · exact .inr (.inr rfl)
        have htx2 : ∀ r, txE (.mk k 0 0 0 0 ⟨#[]⟩ [e0]) ++ r = brk e0 4 (txE e0) ++ (c :: r) := fun r => by
          rw [htx, txL, txL, flat_one]
          simp
        refine Rdb.of_b (fun r hr => ?_) fun r R hr hR => ?_
        · rw [htx2]
          exact H0.whd 4 (Fol.sg hc8 r)
        · rw [htx2]
          obtain ⟨tc, sc⟩ := tok_sg hc8 r
          refine H0.wb (Fol.sg hc8 r) ?_
          rw [show skipL false (c :: r) = c :: r from sc]
          refine Rd.postOp (n := 1) tc hcn (by rw [go_one]; exact hr.tok) ?_
          rw [hk, go_one]
          exact hR
      have pre : ∀ (k : Int) (c : UInt8), (c = 38 ∨ c = 33) → (if c.toNat = 38 then (10 : Int) else 11) = k → lvl k = 3 → txE (.mk k 0 0 0 0 ⟨#[]⟩ [e0]) = c :: (txL 3 [e0]).flatten → Rdb h (.mk k 0 0 0 0 ⟨#[]⟩ [e0]) := by
        intro k c hc hk hl htx
        have hc8 : c = 40 ∨ c = 41 ∨ c = 47 ∨ c = 38 ∨ c = 33 ∨ c = 63 ∨ c = 42 ∨ c = 43 := by
          rcases hc with h | h
          · exact .inr (.inr (.inr (.inl h)))
          · exact .inr (.inr (.inr (.inr (.inl h))))
        have hcn : c.toNat = 38 ∨ c.toNat = 33 := by
          rcases hc with rfl | rfl
          · exact .inl rfl
          · exact .inr rfl
        have htx2 : ∀ r, txE (.mk k 0 0 0 0 ⟨#[]⟩ [e0]) ++ r = c :: (brk e0 3 (txE e0) ++ r) := fun r => by
          rw [htx, txL, txL, flat_one]
          rfl
        refine Rdb.of_c (fun r hr => ?_) (by show lvl k < 4; omega) fun r hr hnp => ?_
        · rw [htx2]
          obtain ⟨tc, sc⟩ := tok_sg hc8 (brk e0 3 (txE e0) ++ r)
          exact ⟨sc, beg_sg tc (by omega)⟩
        · rw [htx2]
          obtain ⟨tc, sc⟩ := tok_sg hc8 (brk e0 3 (txE e0) ++ r)
          obtain ⟨hs, hb⟩ := H0.whd 3 hr
          have hgo : goL (c :: (brk e0 3 (txE e0) ++ r)) 1 = brk e0 3 (txE e0) ++ r := by rw [go_one, hs]
          have := Rd.preOp (h := h) (l := c :: (brk e0 3 (txE e0) ++ r)) (n := 1) (e := e0) (l1 := skipL false r) tc hcn (by rw [hgo]; exact (beg_what hb).1) (by rw [hgo]; exact H0.wc hr hnp)
          rw [hk] at this
          exact this
      rcases (show k = 7 ∨ k = 8 ∨ k = 9 ∨ k = 10 ∨ k = 11 by omega) with rfl | rfl | rfl | rfl | rfl
      · exact post 7 42 (.inr (.inl rfl)) rfl rfl (by rw [txE]; simp only [Int.reduceEq, if_false, if_true])
      · exact post 8 43 (.inr (.inr rfl)) rfl rfl (by rw [txE]; simp only [Int.reduceEq, if_false, if_true])
      · exact post 9 63 (.inl rfl) rfl rfl (by rw [txE]; simp only [Int.reduceEq, if_false, if_true])
      · exact pre 10 38 (.inl rfl) rfl rfl (by rw [txE]; simp only [Int.reduceEq, if_false, if_true])
      · exact pre 11 33 (.inr rfl) rfl rfl (by rw [txE]; simp only [Int.reduceEq, if_false, if_true])
/-- a text that was printed is read as the expression -/
theorem rd_back {e : Ex} (he : Rtx e) (h : Bool) : Rd h .alt (txE e) (.ok e []) ∧ Solid (txE e) ∧ begL h (txE e) = true := by
  have H := rdb h e he
  have h0 := H.e [] Fol.nil (fun c n hc => by cases hc) rfl (fun c n hc => by cases hc)
  have h1 := H.hd [] Fol.nil
  rw [List.append_nil] at h0 h1
  exact ⟨h0, h1.1, h1.2⟩
/-- two right expressions with one text are one -/
theorem tx_inj {e e' : Ex} (he : Rtx e) (he' : Rtx e') (h : txE e = txE e') : e = e' := by
  have h1 := (rd_back he false).1
  have h2 := (rd_back he' false).1
  rw [h] at h1
  have := h1.uniq h2
  injection this
end Go.Proofs.YtndhbdbfjkmloaaDoor
