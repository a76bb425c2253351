/- The bytes with which something may begin: plain. -/
import Derived.Test.YtjmckmjngnmagaaPmP
namespace Go.Proofs.Ytjmckmjngnmagaa
open Go.RowKit

/-- a set, by its four words -/
structure B4 where
  a : BitVec 64
  b : BitVec 64
  c : BitVec 64
  d : BitVec 64
deriving DecidableEq
def B4.s4 (x : B4) : S4 := ⟨(x.a.toNat : Int), (x.b.toNat : Int), (x.c.toNat : Int), (x.d.toNat : Int)⟩
def B4.no : B4 := ⟨0, 0, 0, 0⟩
def B4.or (x y : B4) : B4 := ⟨x.a ||| y.a, x.b ||| y.b, x.c ||| y.c, x.d ||| y.d⟩
def B4.of (a b c d : Int) : B4 := ⟨BitVec.ofInt 64 a, BitVec.ofInt 64 b, BitVec.ofInt 64 c, BitVec.ofInt 64 d⟩
def B4.has (x : B4) (j : Nat) : Bool := hasS x.s4 j
theorem bv_u (v : BitVec 64) : U64 (v.toNat : Int) := by have := v.isLt; unfold U64; omega
theorem B4.u4 (x : B4) : U4 x.s4 := ⟨bv_u _, bv_u _, bv_u _, bv_u _⟩
theorem B4.or_s4 (x y : B4) : (B4.or x y).s4 = S4.map2 orU x.s4 y.s4 := by
  unfold B4.or B4.s4 S4.map2
  simp only [orU_bv]
theorem B4.no_s4 : B4.no.s4 = noS := rfl
theorem B4.or_has (x y : B4) {j : Nat} (hj : j < 256) : (B4.or x y).has j = (x.has j || y.has j) := by
  unfold B4.has
  rw [B4.or_s4, orS_has x.u4 y.u4 hj]
theorem B4.no_has (j : Nat) : B4.no.has j = false := noS_has j
theorem ofInt_u {a : Int} (h : U64 a) : ((BitVec.ofInt 64 a).toNat : Int) = a := by
  obtain ⟨v, rfl⟩ := h.nat
  rw [show BitVec.ofInt 64 (v.toNat : Int) = v by simp]
theorem B4.of_s4 {a b c d : Int} (ha : U64 a) (hb : U64 b) (hc : U64 c) (hd : U64 d) : (B4.of a b c d).s4 = ⟨a, b, c, d⟩ := by
  unfold B4.of B4.s4
  simp only [ofInt_u ha, ofInt_u hb, ofInt_u hc, ofInt_u hd]
def B4.one (c : Nat) : B4 := B4.of (oneS c).a (oneS c).b (oneS c).c (oneS c).d
theorem B4.one_s4 (c : Nat) : (B4.one c).s4 = oneS c := by
  have h := oneS_u c
  unfold B4.one
  rw [B4.of_s4 h.a h.b h.c h.d]
theorem B4.has_word (x : B4) (j : Nat) : (j < 64 → x.has j = x.a.getLsbD j) ∧ (j < 64 → x.has (64 + j) = x.b.getLsbD j) ∧ (j < 64 → x.has (128 + j) = x.c.getLsbD j) ∧ (j < 64 → x.has (192 + j) = x.d.getLsbD j) := by
  unfold B4.has hasS hasE hasN B4.s4
  refine ⟨fun h => ?_, fun h => ?_, fun h => ?_, fun h => ?_⟩
  · rw [show j / 64 = 0 by omega, show j % 64 = j by omega]; rfl
  · rw [show (64 + j) / 64 = 1 by omega, show (64 + j) % 64 = j by omega]; rfl
  · rw [show (128 + j) / 64 = 2 by omega, show (128 + j) % 64 = j by omega]; rfl
  · rw [show (192 + j) / 64 = 3 by omega, show (192 + j) % 64 = j by omega]; rfl
theorem B4.ext_has {x y : B4} (h : ∀ j, j < 256 → x.has j = y.has j) : x = y := by
  obtain ⟨xa, xb, xc, xd⟩ := x
  obtain ⟨ya, yb, yc, yd⟩ := y
  have e1 : xa = ya := BitVec.eq_of_getLsbD_eq fun i hi => by
    have := h i (by omega)
    rw [(B4.has_word _ i).1 hi, (B4.has_word _ i).1 hi] at this
    exact this
  have e2 : xb = yb := BitVec.eq_of_getLsbD_eq fun i hi => by
    have := h (64 + i) (by omega)
    rw [(B4.has_word _ i).2.1 hi, (B4.has_word _ i).2.1 hi] at this
    exact this
  have e3 : xc = yc := BitVec.eq_of_getLsbD_eq fun i hi => by
    have := h (128 + i) (by omega)
    rw [(B4.has_word _ i).2.2.1 hi, (B4.has_word _ i).2.2.1 hi] at this
    exact this
  have e4 : xd = yd := BitVec.eq_of_getLsbD_eq fun i hi => by
    have := h (192 + i) (by omega)
    rw [(B4.has_word _ i).2.2.2 hi, (B4.has_word _ i).2.2.2 hi] at this
    exact this
  rw [e1, e2, e3, e4]
theorem countP_lt {p q : Nat → Bool} : ∀ (l : List Nat), (∀ j ∈ l, p j = true → q j = true) → (∃ j ∈ l, q j = true ∧ p j = false) → l.countP p < l.countP q
  | [], _, h => by obtain ⟨j, hj, _⟩ := h; cases hj
  | x :: l, hpq, h => by
    have hle : l.countP p ≤ l.countP q := List.countP_mono_left fun j hj => hpq j (by simp [hj])
    rw [List.countP_cons, List.countP_cons]
    obtain ⟨j, hj, h1, h2⟩ := h
    rcases List.mem_cons.1 hj with rfl | hj
    · rw [h1, h2]
      simp
      omega
    · have := countP_lt l (fun j hj => hpq j (by simp [hj])) ⟨j, hj, h1, h2⟩
      by_cases hx : p x = true
      · rw [hx, hpq x (by simp) hx]; simp; exact this
      · rw [Bool.not_eq_true] at hx
        rw [hx]
        simp only [Bool.false_eq_true, if_false]
        split <;> omega
def seOrd : Ord B4 where
  le x y := ∀ j, j < 256 → x.has j = true → y.has j = true
  wt x := (List.range 256).countP fun j => !x.has j
  refl x j _ h := h
  trans h k j hj hx := k j hj (h j hj hx)
  lt := by
    intro x y h hne
    refine countP_lt _ (fun j hj hy => ?_) ?_
    · have hj := List.mem_range.1 hj
      cases hx : x.has j with
      | false => rfl
      | true => rw [h j hj hx] at hy; exact hy
    · refine Classical.byContradiction fun hc => hne (B4.ext_has fun j hj => ?_)
      cases hx : x.has j with
      | true => rw [h j hj hx]
      | false =>
        cases hy : y.has j with
        | false => rfl
        | true => exact absurd ⟨j, List.mem_range.2 hj, by rw [hx]; rfl, by rw [hy]; rfl⟩ hc
theorem orB_mono {x y u v : B4} (h : seOrd.le x y) (k : seOrd.le u v) : seOrd.le (B4.or x u) (B4.or y v) := by
  intro j hj hx
  rw [B4.or_has _ _ hj, Bool.or_eq_true] at hx ⊢
  rcases hx with hx | hx
  · exact .inl (h j hj hx)
  · exact .inr (k j hj hx)
theorem orB_left (x y : B4) : seOrd.le x (B4.or x y) := fun j hj hx => by rw [B4.or_has _ _ hj, hx]; rfl
theorem orB_right (x y : B4) : seOrd.le y (B4.or x y) := fun j hj hx => by rw [B4.or_has _ _ hj, hx, Bool.or_true]
theorem noB_le (y : B4) : seOrd.le B4.no y := fun j _ hx => by rw [B4.no_has] at hx; cases hx

mutual
/-- what finder.of says -/
def firE (g : List Rl) (fs : List Fa) (kn : List B4) : Ex → B4
  | .mk k a b c d t ks =>
    if k = 2 then B4.of a b c d
    else if k = 3 then B4.one (bt t.data.toList 0)
    else if k = 4 then kn.getD (fnd g t.data.toList).toNat B4.no
    else if k = 10 ∨ k = 11 then B4.no
    else firK g fs kn k ks B4.no
def firK (g : List Rl) (fs : List Fa) (kn : List B4) (k : Int) : List Ex → B4 → B4
  | [], out => out
  | e :: es, out => if k = 5 ∧ (ofE g fs e).e = false then B4.or out (firE g fs kn e) else firK g fs kn k es (B4.or out (firE g fs kn e))
end
def nxS (g : List Rl) (fs : List Fa) (kn : List B4) (i : Nat) : B4 := match g[i]? with
  | some r => firE g fs kn r.2
  | none => B4.no
def firG (g : List Rl) : List B4 := growG (nxS g (factsG g)) (wtL seOrd (List.replicate g.length B4.no) + 1) (List.replicate g.length B4.no)

section
variable {g : List Rl} {fs : List Fa}
theorem firK_mono {l m : List B4} {k : Int} : ∀ (ks : List Ex), (∀ e ∈ ks, seOrd.le (firE g fs l e) (firE g fs m e)) → ∀ x y, seOrd.le x y → seOrd.le (firK g fs l k ks x) (firK g fs m k ks y)
  | [], _, x, y, h => by rw [firK, firK]; exact h
  | e :: es, ih, x, y, h => by
    rw [firK, firK]
    have h1 := orB_mono h (ih e (by simp))
    split
    · exact h1
    · exact firK_mono es (fun e he => ih e (by simp [he])) _ _ h1
theorem firE_mono {l m : List B4} (h : LeL seOrd l m) (e : Ex) : seOrd.le (firE g fs l e) (firE g fs m e) := by
  refine Ex.ind (P := fun e => seOrd.le (firE g fs l e) (firE g fs m e)) ?_ e
  intro k a b c d t ks ih
  rw [firE, firE]
  split
  · exact seOrd.refl _
  split
  · exact seOrd.refl _
  split
  · rw [List.getD_eq_getElem?_getD, List.getD_eq_getElem?_getD]
    cases hx : l[(fnd g t.data.toList).toNat]? with
    | none => exact noB_le _
    | some x =>
      have hlt := (List.getElem?_eq_some_iff.1 hx).1
      have hy : m[(fnd g t.data.toList).toNat]? = some (m[(fnd g t.data.toList).toNat]'(by have := h.1; omega)) := List.getElem?_eq_getElem _
      rw [hy]
      exact h.2 _ _ _ hx hy
  split
  · exact seOrd.refl _
  exact firK_mono ks ih _ _ (seOrd.refl _)
theorem nxS_mono (n : Nat) : Mono seOrd (nxS g fs) n := by
  intro l m _ h i
  unfold nxS
  split
  · exact firE_mono h _
  · exact seOrd.refl _
theorem low_zeroS : Low seOrd (nxS g fs) (List.replicate g.length B4.no) := by
  intro i x hx
  rw [List.getElem?_replicate] at hx
  split at hx
  · injection hx with hx
    subst hx
    exact noB_le _
  · cases hx
theorem firG_len (g : List Rl) : (firG g).length = g.length := by
  have := (grow_keeps (nx := nxS g (factsG g)) (P := fun _ => True) (fun _ _ _ _ _ => trivial) (wtL seOrd (List.replicate g.length B4.no) + 1) (List.replicate g.length B4.no) trivial).2
  rw [List.length_replicate] at this
  exact this
/-- nothing new comes of what is known in the end -/
theorem firG_fix {i : Nat} {r : Rl} (hr : g[i]? = some r) : (firG g)[i]? = some (firE g (factsG g) (firG g) r.2) := by
  have hi := (List.getElem?_eq_some_iff.1 hr).1
  have := grow_fix (nxS_mono (g := g) (fs := factsG g) g.length) (wtL seOrd (List.replicate g.length B4.no) + 1) (List.replicate g.length B4.no) (by simp) low_zeroS (by omega) i hi
  rw [show firG g = growG (nxS g (factsG g)) (wtL seOrd (List.replicate g.length B4.no) + 1) (List.replicate g.length B4.no) from rfl]
  rw [this]
  unfold nxS
  rw [hr]
end

/-! a rule that takes something takes one of its first bytes first -/
section
variable {g : List Rl} {s : List UInt8} {fs : List Fa} {kn : List B4}
theorem firK_out {k : Int} : ∀ (ks : List Ex) (x : B4), seOrd.le x (firK g fs kn k ks x)
  | [], x => by rw [firK]; exact seOrd.refl _
  | e :: es, x => by
    rw [firK]
    split
    · exact orB_left _ _
    · exact seOrd.trans (orB_left _ _) (firK_out es _)
def Fst (kn : List B4) (g : List Rl) (fs : List Fa) (s : List UInt8) (p : Nat) (e : Ex) : Prop := (firE g fs kn e).has (bt s p) = true
theorem lit_first {p : Nat} {t : List UInt8} (h : litAt s p t = true) (ht : 0 < t.length) : bt s p = bt t 0 := by
  unfold litAt at h
  rw [List.isPrefixOf_iff_prefix] at h
  obtain ⟨u, hu⟩ := h
  have h0 : (s.drop p)[0]? = t[0]? := by
    rw [← hu, List.getElem?_append_left ht]
  rw [List.getElem?_drop, Nat.add_zero] at h0
  unfold bt
  rw [List.getD_eq_getElem?_getD, List.getD_eq_getElem?_getD, h0]
theorem firsts (H : Fits g fs) (hW : ∀ r ∈ g, WfE r.2) (hk : ∀ (i : Nat) (r : Rl), g[i]? = some r → kn[i]? = some (firE g fs kn r.2)) : ∀ n,
    (∀ e p to, Rt g e → WfE e → p ≤ s.length → ev g s n e p = some (some to) → p < to → Fst kn g fs s p e) ∧
    (∀ k e p to, 7 ≤ k → k ≤ 9 → Rt g e → WfE e → p ≤ s.length → evK g s n k e p = some (some to) → p < to → Fst kn g fs s p e) ∧
    (∀ es p to x, (∀ e ∈ es, Rt g e ∧ WfE e) → p ≤ s.length → evS g s n es p = some (some to) → p < to → (firK g fs kn 5 es x).has (bt s p) = true) ∧
    (∀ es p to x k, k ≠ 5 → (∀ e ∈ es, Rt g e ∧ WfE e) → p ≤ s.length → evA g s n es p = some (some to) → p < to → (firK g fs kn k es x).has (bt s p) = true) ∧
    (∀ e p to, Rt g e → WfE e → p ≤ s.length → evR g s n e p = some (some to) → p < to → Fst kn g fs s p e) := by
  intro n
  induction n with
  | zero => exact ⟨fun e p o _ _ _ h => (by cases h), fun k e p o _ _ _ _ _ h => (by cases h), fun es p o x _ _ h => (by cases h), fun es p o x k _ _ _ h => (by cases h), fun e p o _ _ _ h => (by cases h)⟩
  | succ n ih =>
    obtain ⟨h1, h2, h3, h4, h5⟩ := ih
    have hb := bt_lt s
    refine ⟨?_, ?_, ?_, ?_, ?_⟩
    · intro e p to hR hWe hp h hlt
      cases hR with
      | mk k a b c d t ks hfit hname hkids =>
      cases hWe with
      | mk _ _ _ _ _ _ _ hk64 wa wb wc wd wks =>
      have hRk : ∀ e ∈ ks, Rt g e ∧ WfE e := fun e he => ⟨hkids e he, wks e he⟩
      rw [ev_s] at h
      unfold Fst
      rw [firE]
      rcases fit_cases hfit with ⟨rfl, h0⟩ | ⟨rfl, h0⟩ | ⟨rfl, h0, ht0, _⟩ | ⟨rfl, h0, _⟩ | ⟨rfl, h02, h8⟩ | ⟨rfl, h02, h8⟩ | ⟨h7, h11, h01⟩
      · rw [if_pos rfl] at h
        injection h with h; injection h with h; omega
      · rw [if_neg (by decide), if_pos rfl] at h
        rw [if_pos rfl]
        split at h
        · rename_i hc
          unfold B4.has
          rw [B4.of_s4 wa wb wc wd]
          exact hc.2
        · cases h
      · rw [if_neg (by decide), if_neg (by decide), if_pos rfl] at h
        rw [if_neg (by decide), if_pos rfl]
        split at h
        · rename_i hc
          injection h with h; injection h with h
          have hsz : t.data.toList.length = t.size := size_list t
          unfold B4.has
          rw [B4.one_s4, oneS_has (bt_lt _ _) (bt_lt _ _), lit_first hc (by omega)]
          simp
        · cases h
      · rw [if_neg (by decide), if_neg (by decide), if_neg (by decide), if_pos rfl] at h
        rw [if_neg (by decide), if_neg (by decide), if_pos rfl]
        obtain ⟨r, hr, _⟩ := fnd_at (hname rfl)
        rw [hr] at h
        simp only at h
        rw [List.getD_eq_getElem?_getD, hk _ r hr]
        exact h1 r.2 p to (H.right r (List.mem_of_getElem? hr)) (hW r (List.mem_of_getElem? hr)) hp h hlt
      · rw [if_neg (by decide), if_neg (by decide), if_neg (by decide), if_neg (by decide), if_pos rfl] at h
        rw [if_neg (by decide), if_neg (by decide), if_neg (by decide), if_neg (by decide)]
        exact h3 ks p to _ hRk hp h hlt
      · rw [if_neg (by decide), if_neg (by decide), if_neg (by decide), if_neg (by decide), if_neg (by decide), if_pos rfl] at h
        rw [if_neg (by decide), if_neg (by decide), if_neg (by decide), if_neg (by decide)]
        exact h4 ks p to _ 6 (by decide) hRk hp h hlt
      · rw [if_neg (by omega), if_neg (by omega), if_neg (by omega), if_neg (by omega), if_neg (by omega), if_neg (by omega)] at h
        rw [if_neg (by omega), if_neg (by omega), if_neg (by omega)]
        cases ks with
        | nil => cases h
        | cons e es =>
          simp only at h
          by_cases h9 : k ≤ 9
          · rw [if_neg (by omega), firK]
            have := h2 k e p to h7 h9 (hRk e (by simp)).1 (hRk e (by simp)).2 hp h hlt
            split
            · exact orB_right _ _ _ (hb _) this
            · exact firK_out es _ _ (hb _) (orB_right _ _ _ (hb _) this)
          · exfalso
            cases n with
            | zero => cases h
            | succ n =>
              rw [evK_s, if_neg (by omega)] at h
              cases he : ev g s n e p with
              | none => rw [he] at h; cases h
              | some u =>
                rw [he] at h
                cases u with
                | none =>
                  simp only at h
                  split at h
                  · cases h
                  · injection h with h; injection h with h; omega
                | some q =>
                  simp only at h
                  rw [if_neg (by omega), if_neg (by omega)] at h
                  split at h
                  · injection h with h; injection h with h; omega
                  · cases h
    · intro k e p to h7 h9 hR hWe hp h hlt
      rw [evK_s] at h
      by_cases k7 : k = 7
      · rw [if_pos k7] at h
        exact h5 e p to hR hWe hp h hlt
      rw [if_neg k7] at h
      cases he : ev g s n e p with
      | none => rw [he] at h; cases h
      | some u =>
        rw [he] at h
        cases u with
        | none =>
          simp only at h
          split at h
          · cases h
          · injection h with h; injection h with h; omega
        | some q =>
          simp only at h
          have ht := (told (s := s) H n).1 e p _ hR hp he
          by_cases hpq : p < q
          · exact h1 e p q hR hWe hp he hpq
          · obtain rfl : q = p := by have := ht.1; omega
            by_cases k8 : k = 8
            · rw [if_pos k8] at h
              exact h5 e q to hR hWe hp h hlt
            · rw [if_neg k8, if_pos (by omega)] at h
              injection h with h; injection h with h; omega
    · intro es p to x hes hp h hlt
      cases es with
      | nil => rw [evS_nil] at h; injection h with h; injection h with h; omega
      | cons e es =>
        rw [evS_cons] at h
        rw [firK]
        cases he : ev g s n e p with
        | none => rw [he] at h; cases h
        | some u =>
          rw [he] at h
          cases u with
          | none => cases h
          | some q =>
            simp only at h
            obtain ⟨hR, hWe⟩ := hes e (by simp)
            have ht := (told (s := s) H n).1 e p _ hR hp he
            by_cases hpq : p < q
            · have := h1 e p q hR hWe hp he hpq
              split
              · exact orB_right _ _ _ (hb _) this
              · exact firK_out es _ _ (hb _) (orB_right _ _ _ (hb _) this)
            · obtain rfl : q = p := by have := ht.1; omega
              have hem : (ofE g fs e).e = true := ht.2.2.1 rfl
              rw [if_neg (by rw [hem]; simp)]
              exact h3 es q to _ (fun e he => hes e (by simp [he])) hp h hlt
    · intro es p to x k hk5 hes hp h hlt
      cases es with
      | nil => rw [evA_nil] at h; cases h
      | cons e es =>
        rw [evA_cons] at h
        rw [firK, if_neg (fun hc => hk5 hc.1)]
        cases he : ev g s n e p with
        | none => rw [he] at h; cases h
        | some u =>
          rw [he] at h
          obtain ⟨hR, hWe⟩ := hes e (by simp)
          cases u with
          | none => exact h4 es p to _ k hk5 (fun e he => hes e (by simp [he])) hp h hlt
          | some q =>
            simp only at h
            injection h with h; injection h with h
            subst h
            exact firK_out es _ _ (hb _) (orB_right _ _ _ (hb _) (h1 e p q hR hWe hp he hlt))
    · intro e p to hR hWe hp h hlt
      rw [evR_s] at h
      cases he : ev g s n e p with
      | none => rw [he] at h; cases h
      | some u =>
        rw [he] at h
        cases u with
        | none => simp only at h; injection h with h; injection h with h; omega
        | some q =>
          simp only at h
          have ht := (told (s := s) H n).1 e p _ hR hp he
          by_cases hpq : p < q
          · exact h1 e p q hR hWe hp he hpq
          · obtain rfl : q = p := by have := ht.1; omega
            exact h5 e q to hR hWe hp h hlt
end

/-! a rule may eat only if it may begin with something -/
section
variable {g : List Rl} {fs : List Fa} {kn : List B4}
/-- is there a byte? -/
def Some4 (x : B4) : Prop := ∃ j, j < 256 ∧ x.has j = true
theorem some_le {x y : B4} (h : seOrd.le x y) (hx : Some4 x) : Some4 y := by
  obtain ⟨j, hj, h1⟩ := hx
  exact ⟨j, hj, h j hj h1⟩
theorem some_ne {x : B4} (h : Some4 x) : x ≠ B4.no := by
  rintro rfl
  obtain ⟨j, _, h1⟩ := h
  rw [B4.no_has] at h1
  cases h1
theorem some_of_ne {x : B4} (h : x ≠ B4.no) : Some4 x := by
  refine Classical.byContradiction fun hc => h (B4.ext_has fun j hj => ?_)
  rw [B4.no_has]
  cases hx : x.has j with
  | false => rfl
  | true => exact absurd ⟨j, hj, hx⟩ hc
/-- what is known so far: no more than in the end, and what eats may begin with something -/
def EatI (fs : List Fa) (kn : List B4) (l : List Fa) : Prop := LeL faOrd l fs ∧ ∀ (i : Nat) (x : Fa), l[i]? = some x → x.a = true → ∃ y, kn[i]? = some y ∧ Some4 y
/-- of a sequence that eats something may begin -/
theorem seq_eats {l : List Fa} : ∀ (es : List Ex), (∀ e ∈ es, faOrd.le (ofE g l e) (ofE g fs e) ∧ ((ofE g l e).a = true → Some4 (firE g fs kn e))) → ∀ (z : Fa) (x : B4), (z.a = true → Some4 x) → ((ofEs g l es).foldl thenF z).a = true → (z.a = true ∨ z.e = true) → Some4 (firK g fs kn 5 es x)
  | [], _, z, x, hz, h, _ => by
    rw [firK]
    rw [ofEs, List.foldl_nil] at h
    exact hz h
  | e :: es, ih, z, x, hz, h, hs => by
    rw [ofEs, List.foldl_cons] at h
    rw [firK]
    obtain ⟨h1, h2⟩ := ih e (by simp)
    by_cases ha : z.a = true
    · have := hz ha
      split
      · exact some_le (orB_left _ _) this
      · exact some_le (seOrd.trans (orB_left _ _) (firK_out es _)) this
    · have hze : z.e = true := hs.resolve_left ha
      by_cases hea : (ofE g l e).a = true
      · have := some_le (orB_right x _) (h2 hea)
        split
        · exact this
        · exact some_le (firK_out es _) this
      · have hta : (thenF z (ofE g l e)).a = false := by
          simp only [thenF]
          simp [ha, hea]
        have hee : (ofE g l e).e = true := by
          refine Classical.byContradiction fun hc => ?_
          have hte : (thenF z (ofE g l e)).e = false := by simp only [thenF]; simp [hc]
          have : ∀ (l : List Fa) (z : Fa), z.a = false → z.e = false → (l.foldl thenF z).a = false := by
            intro l
            induction l with
            | nil => intro z h _; exact h
            | cons y l ih => intro z h1 h2; exact ih _ (by simp [thenF, h1, h2]) (by simp [thenF, h2])
          rw [this _ _ hta hte] at h
          cases h
        rw [if_neg (by rw [h1.1 hee]; simp)]
        exact seq_eats es (fun e he => ih e (by simp [he])) _ _ (fun h => by rw [hta] at h; cases h) h (.inr (by simp only [thenF]; simp [hze, hee]))
theorem alt_eats {l : List Fa} {k : Int} (hk : k ≠ 5) : ∀ (es : List Ex), (∀ e ∈ es, (ofE g l e).a = true → Some4 (firE g fs kn e)) → ∀ (x : B4), (∃ y ∈ ofEs g l es, y.a = true) ∨ Some4 x → Some4 (firK g fs kn k es x)
  | [], _, x, h => by
    rw [firK]
    rcases h with ⟨y, hy, _⟩ | h
    · rw [ofEs] at hy; cases hy
    · exact h
  | e :: es, ih, x, h => by
    rw [firK, if_neg (fun hc => hk hc.1)]
    refine alt_eats hk es (fun e he => ih e (by simp [he])) _ ?_
    rcases h with ⟨y, hy, hya⟩ | h
    · rw [ofEs, List.mem_cons] at hy
      rcases hy with rfl | hy
      · exact .inr (some_le (orB_right _ _) (ih e (by simp) hya))
      · exact .inl ⟨y, hy, hya⟩
    · exact .inr (some_le (orB_left _ _) h)
theorem altF_a : ∀ (l : List Fa), (altF l).a = true → ∃ y ∈ l, y.a = true
  | [], h => by simp [altF] at h
  | [x], h => ⟨x, by simp, by simpa [altF] using h⟩
  | x :: y :: l, h => by
    simp only [altF, orF, Bool.or_eq_true, Bool.and_eq_true] at h
    rcases h with h | h
    · exact ⟨x, by simp, h⟩
    · obtain ⟨z, hz, hza⟩ := altF_a (y :: l) h.2
      exact ⟨z, by simp only [List.mem_cons] at hz ⊢; exact .inr hz, hza⟩
theorem kid0_a {l : List Fa} (h : (kid0 l).a = true) : ∃ y ∈ l, y.a = true := by
  cases l with
  | nil => cases h
  | cons x l => exact ⟨x, by simp, h⟩
theorem one_some {c : Nat} (hc : c < 256) : Some4 (B4.one c) := ⟨c, hc, by unfold B4.has; rw [B4.one_s4, oneS_has hc hc]; simp⟩
theorem of_some {a b c d : Int} (ha : U64 a) (hb : U64 b) (hc : U64 c) (hd : U64 d) (h : (a == 0 && (b == 0 && (c == 0 && d == 0))) = false) : Some4 (B4.of a b c d) := by
  refine some_of_ne fun he => ?_
  have h4 := B4.of_s4 ha hb hc hd
  rw [he] at h4
  unfold B4.no B4.s4 at h4
  injection h4 with e1 e2 e3 e4
  have e1' : a = 0 := e1.symm
  have e2' : b = 0 := e2.symm
  have e3' : c = 0 := e3.symm
  have e4' : d = 0 := e4.symm
  rw [e1', e2', e3', e4'] at h
  cases h
theorem eatE {l : List Fa} (hI : EatI fs kn l) (e : Ex) : WfE e → (ofE g l e).a = true → Some4 (firE g fs kn e) := by
  refine Ex.ind (P := fun e => WfE e → (ofE g l e).a = true → Some4 (firE g fs kn e)) ?_ e
  intro k a b c d t ks ih hw h
  cases hw with
  | mk _ _ _ _ _ _ _ hk64 wa wb wc wd wks =>
  rw [firE]
  rw [ofE] at h
  by_cases k1 : k = 1
  · rw [if_pos k1] at h; cases h
  rw [if_neg k1] at h
  by_cases k2 : k = 2
  · rw [if_pos k2] at h ⊢
    exact of_some wa wb wc wd (by rw [Bool.not_eq_true'] at h; exact h)
  rw [if_neg k2] at h ⊢
  by_cases k3 : k = 3
  · rw [if_pos k3]
    exact one_some (bt_lt _ _)
  rw [if_neg k3] at h ⊢
  by_cases k4 : k = 4
  · rw [if_pos k4] at h ⊢
    rw [List.getD_eq_getElem?_getD] at h ⊢
    cases hx : l[(fnd g t.data.toList).toNat]? with
    | none => rw [hx] at h; cases h
    | some x =>
      rw [hx] at h
      obtain ⟨y, hy, hs⟩ := hI.2 _ x hx h
      rw [hy]
      exact hs
  rw [if_neg k4] at h ⊢
  have hal : ∀ k : Int, k ≠ 5 → (∃ y ∈ ofEs g l ks, y.a = true) → Some4 (firK g fs kn k ks B4.no) := fun k hk hy => alt_eats hk ks (fun e he => ih e he (wks e he)) _ (.inl hy)
  by_cases k5 : k = 5
  · rw [if_pos k5] at h
    rw [if_neg (by omega), k5]
    refine seq_eats ks (fun e he => ⟨of_mono hI.1 e, ih e he (wks e he)⟩) ⟨true, false, false⟩ B4.no (fun h => by cases h) ?_ (.inr rfl)
    cases hq : ofEs g l ks with
    | nil => rw [hq] at h; cases h
    | cons x xs =>
      rw [hq] at h
      rw [List.foldl_cons, show thenF ⟨true, false, false⟩ x = x from by obtain ⟨x1, x2, x3⟩ := x; simp [thenF]]
      exact h
  rw [if_neg k5] at h
  by_cases k6 : k = 6
  · rw [if_pos k6] at h
    rw [if_neg (by omega)]
    exact hal k k5 (altF_a _ h)
  rw [if_neg k6] at h
  by_cases k7 : k = 7
  · rw [if_pos k7] at h
    rw [if_neg (by omega)]
    exact hal k k5 (kid0_a h)
  rw [if_neg k7] at h
  by_cases k8 : k = 8
  · rw [if_pos k8] at h
    rw [if_neg (by omega)]
    refine hal k k5 (kid0_a ?_)
    simp only [thenF, starF, Bool.or_eq_true, Bool.and_eq_true] at h
    rcases h with h | h
    · exact h.1
    · exact h.2
  rw [if_neg k8] at h
  by_cases k9 : k = 9
  · rw [if_pos k9] at h
    rw [if_neg (by omega)]
    refine hal k k5 (kid0_a ?_)
    simp only [orF, Bool.or_eq_true, Bool.and_eq_true] at h
    rcases h with h | h
    · exact h
    · cases h.2
  rw [if_neg k9] at h
  by_cases k10 : k = 10
  · rw [if_pos k10] at h; cases h
  · rw [if_neg k10] at h; cases h
/-- what eats may begin with something -/
theorem facts_first {g : List Rl} (R : RightG g) (hW : ∀ r ∈ g, WfE r.2) : ∀ (i : Nat) (x : Fa), (factsG g)[i]? = some x → x.a = true → ∃ y, (firG g)[i]? = some y ∧ y ≠ B4.no := by
  have hfl := facts_len g
  have hkl := firG_len g
  have H := fits_of R
  generalize hfs : factsG g = fs at hfl H
  generalize hkn : firG g = kn at hkl
  have hfix : ∀ (i : Nat) (r : Rl), g[i]? = some r → kn[i]? = some (firE g fs kn r.2) := fun i r hr => by
    rw [← hkn, ← hfs]; exact firG_fix hr
  let top : List Fa := (List.range g.length).map fun i => ⟨(fs.getD i ⟨false, false, false⟩).e, (fs.getD i ⟨false, false, false⟩).a && decide (kn.getD i B4.no ≠ B4.no), (fs.getD i ⟨false, false, false⟩).f⟩
  have htl : top.length = g.length := by simp [top]
  have hta : ∀ (i : Nat) (y : Fa), top[i]? = some y → ∃ x z, fs[i]? = some x ∧ kn[i]? = some z ∧ y = ⟨x.e, x.a && decide (z ≠ B4.no), x.f⟩ := by
    intro i y hy
    have hi : i < g.length := by have := (List.getElem?_eq_some_iff.1 hy).1; omega
    have hx : fs[i]? = some (fs[i]'(by omega)) := List.getElem?_eq_getElem _
    have hz : kn[i]? = some (kn[i]'(by omega)) := List.getElem?_eq_getElem _
    generalize fs[i]'(by omega) = x at hx
    generalize kn[i]'(by omega) = z at hz
    refine ⟨x, z, hx, hz, ?_⟩
    simp only [top, List.getElem?_map, List.getElem?_range hi, Option.map_some, List.getD_eq_getElem?_getD, hx, hz, Option.getD_some, Option.some.injEq] at hy
    exact hy.symm
  have hI : EatI fs kn top := by
    refine ⟨⟨by omega, fun i y x hy hx => ?_⟩, fun i y hy ha => ?_⟩
    · obtain ⟨x', z, h1, h2, rfl⟩ := hta i y hy
      rw [hx] at h1
      injection h1 with h1
      subst h1
      exact ⟨id, fun h => by simp only [Bool.and_eq_true] at h; exact h.1, id⟩
    · obtain ⟨x', z, h1, h2, rfl⟩ := hta i y hy
      simp only [Bool.and_eq_true, decide_eq_true_eq] at ha
      exact ⟨z, h2, some_of_ne ha.2⟩
  have hle := facts_least g htl (fun i y hy => by
    obtain ⟨x, z, h1, h2, rfl⟩ := hta i y hy
    have hi : i < g.length := by have := (List.getElem?_eq_some_iff.1 hy).1; omega
    have hr : g[i]? = some g[i] := List.getElem?_eq_getElem hi
    generalize g[i] = r at hr
    unfold nxF
    rw [hr]
    simp only
    have h3 := H.fix i r hr
    rw [h1] at h3
    injection h3 with h3
    have h4 := hfix i r hr
    rw [h2] at h4
    injection h4 with h4
    have hm := of_mono hI.1 (g := g) r.2
    rw [← h3] at hm
    refine ⟨hm.1, fun h => ?_, hm.2.2⟩
    have := eatE hI r.2 (hW r (List.mem_of_getElem? hr)) h
    rw [← h4] at this
    simp only [Bool.and_eq_true, decide_eq_true_eq]
    exact ⟨hm.2.1 h, some_ne this⟩)
  rw [hfs] at hle
  intro i x hx ha
  have hi : i < g.length := by have := (List.getElem?_eq_some_iff.1 hx).1; omega
  have hy : top[i]? = some (top[i]'(by omega)) := List.getElem?_eq_getElem _
  generalize top[i]'(by omega) = y at hy
  have h1 := (hle.2 i x y hx hy).2.1 ha
  obtain ⟨x', z, h2, h3, rfl⟩ := hta i y hy
  simp only [Bool.and_eq_true, decide_eq_true_eq] at h1
  exact ⟨z, h3, h1.2⟩
end
end Go.Proofs.Ytjmckmjngnmagaa
