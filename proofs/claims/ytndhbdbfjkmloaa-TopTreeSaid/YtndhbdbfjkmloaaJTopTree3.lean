/- What is known grows till it is all there is; plain: rounds over a list, each entry by what is known of all. What is known of the rules grows: the order of facts, well.of rises with what is known; plain. A set's words, and what set.Has answers. What a grammar means: plain, by fuel. The trees that an expression's meaning takes on the way: plain. -/
import Derived.Test.YtndhbdbfjkmloaaJTopTree2
import Derived.Test.YtndhbdbfjkmloaaJTopTree0
import Derived.Test.YtndhbdbfjkmloaaProg
import Derived.Laws.Bits128
namespace Go.Proofs.Ytndhbdbfjkmloaa

/-- entries that are ordered, and of which each greater one weighs less -/
structure Ord (T : Type) where
  le : T → T → Prop
  wt : T → Nat
  refl : ∀ x, le x x
  trans : ∀ {x y z}, le x y → le y z → le x z
  lt : ∀ {x y}, le x y → x ≠ y → wt y < wt x

section
variable {T : Type}
/-- one list lies below another -/
def LeL (O : Ord T) (l m : List T) : Prop := l.length = m.length ∧ ∀ (i : Nat) (x y : T), l[i]? = some x → m[i]? = some y → O.le x y
/-- what is known says no more than what comes of it -/
def Low (O : Ord T) (nx : List T → Nat → T) (kn : List T) : Prop := ∀ (i : Nat) (x : T), kn[i]? = some x → O.le x (nx kn i)
def Mono (O : Ord T) (nx : List T → Nat → T) (n : Nat) : Prop := ∀ (l m : List T), l.length = n → LeL O l m → ∀ i, O.le (nx l i) (nx m i)
def wtL (O : Ord T) (l : List T) : Nat := (l.map O.wt).sum

theorem wtL_set (O : Ord T) : ∀ (l : List T) (i : Nat) (x y : T), l[i]? = some x → O.wt y < O.wt x → wtL O (l.set i y) < wtL O l
  | [], i, x, y, h, _ => by simp at h
  | z :: l, 0, x, y, h, hw => by
    simp at h
    subst h
    simp [wtL]
    exact hw
  | z :: l, i + 1, x, y, h, hw => by
    have := wtL_set O l i x y (by simpa using h) hw
    simp [wtL] at this ⊢
    exact this
theorem leL_set (O : Ord T) {l : List T} {i : Nat} {x y : T} (hx : l[i]? = some x) (h : O.le x y) : LeL O l (l.set i y) := by
  refine ⟨by simp, fun j u v hu hv => ?_⟩
  by_cases hij : i = j
  · subst hij
    rw [hx] at hu
    rw [List.getElem?_set_self (List.getElem?_eq_some_iff.1 hx).1] at hv
    injection hu with hu
    injection hv with hv
    rw [← hu, ← hv]
    exact h
  · rw [List.getElem?_set_ne hij] at hv
    rw [hu] at hv
    injection hv with hv
    rw [← hv]
    exact O.refl _
theorem LeL.refl (O : Ord T) (l : List T) : LeL O l l := ⟨rfl, fun i x y hx hy => by rw [hx] at hy; injection hy with hy; rw [hy]; exact O.refl _⟩

end
section
variable {T : Type} [DecidableEq T]
def roundG (nx : List T → Nat → T) : Nat → Nat → List T → Bool → List T × Bool
  | 0, _, kn, more => (kn, more)
  | m + 1, i, kn, more => if kn[i]? = some (nx kn i) then roundG nx m (i + 1) kn more else roundG nx m (i + 1) (kn.set i (nx kn i)) true
def growG (nx : List T → Nat → T) : Nat → List T → List T
  | 0, kn => kn
  | f + 1, kn => if (roundG nx kn.length 0 kn false).2 = true then growG nx f (roundG nx kn.length 0 kn false).1 else (roundG nx kn.length 0 kn false).1

omit [DecidableEq T] in
/-- a step that says something new -/
theorem low_step {O : Ord T} {nx : List T → Nat → T} {kn : List T} {i : Nat} (hm : Mono O nx kn.length) (hL : Low O nx kn) (hi : i < kn.length) (hne : kn[i]? ≠ some (nx kn i)) :
    Low O nx (kn.set i (nx kn i)) ∧ wtL O (kn.set i (nx kn i)) < wtL O kn := by
  have hx : kn[i]? = some kn[i] := List.getElem?_eq_getElem hi
  generalize kn[i] = x at hx
  have hle := hL i x hx
  have hne' : x ≠ nx kn i := fun e => hne (by rw [hx, e])
  refine ⟨fun j u hu => ?_, wtL_set O kn i x _ hx (O.lt hle hne')⟩
  have h1 := hm kn _ rfl (leL_set O hx hle) j
  refine O.trans ?_ h1
  by_cases hij : i = j
  · subst hij
    rw [List.getElem?_set_self hi] at hu
    injection hu with hu
    rw [hu]
    exact O.refl _
  · rw [List.getElem?_set_ne hij] at hu
    exact hL j u hu

/-- what holds through rounds -/
theorem round_keeps {nx : List T → Nat → T} {P : List T → Prop} (hP : ∀ kn i, P kn → i < kn.length → kn[i]? ≠ some (nx kn i) → P (kn.set i (nx kn i))) :
    ∀ (m i : Nat) (kn : List T) (more : Bool), i + m = kn.length → P kn → P (roundG nx m i kn more).1 ∧ (roundG nx m i kn more).1.length = kn.length
  | 0, i, kn, more, _, h => ⟨h, rfl⟩
  | m + 1, i, kn, more, hi, h => by
    unfold roundG
    split
    · exact round_keeps hP m (i + 1) kn more (by omega) h
    · rename_i hne
      have := round_keeps hP m (i + 1) (kn.set i (nx kn i)) true (by simp; omega) (hP kn i h (by omega) hne)
      rw [List.length_set] at this
      exact this
theorem grow_keeps {nx : List T → Nat → T} {P : List T → Prop} (hP : ∀ kn i, P kn → i < kn.length → kn[i]? ≠ some (nx kn i) → P (kn.set i (nx kn i))) :
    ∀ (f : Nat) (kn : List T), P kn → P (growG nx f kn) ∧ (growG nx f kn).length = kn.length
  | 0, kn, h => ⟨h, rfl⟩
  | f + 1, kn, h => by
    have h1 := round_keeps hP kn.length 0 kn false (by omega) h
    unfold growG
    split
    · have := grow_keeps hP f _ h1.1
      exact ⟨this.1, this.2.trans h1.2⟩
    · exact h1
/-- a round that says nothing new -/
theorem round_still {nx : List T → Nat → T} : ∀ (m i : Nat) (kn : List T) (more : Bool), (roundG nx m i kn more).2 = false → more = false ∧ (roundG nx m i kn more).1 = kn ∧ ∀ j, i ≤ j → j < i + m → kn[j]? = some (nx kn j)
  | 0, i, kn, more, h => ⟨h, rfl, fun j h1 h2 => by omega⟩
  | m + 1, i, kn, more, h => by
    unfold roundG at h ⊢
    split at h
    · rename_i he
      rw [if_pos he]
      obtain ⟨h1, h2, h3⟩ := round_still m (i + 1) kn more h
      refine ⟨h1, h2, fun j hj1 hj2 => ?_⟩
      by_cases hij : i = j
      · subst hij; exact he
      · exact h3 j (by omega) (by omega)
    · have := (round_still m (i + 1) (kn.set i (nx kn i)) true h).1
      cases this
/-- what a round makes lighter -/
theorem round_wt {O : Ord T} {nx : List T → Nat → T} {n : Nat} (hm : Mono O nx n) : ∀ (m i : Nat) (kn : List T) (more : Bool), kn.length = n → i + m = n → Low O nx kn →
    wtL O (roundG nx m i kn more).1 ≤ wtL O kn ∧ ((roundG nx m i kn more).2 = true → more = true ∨ wtL O (roundG nx m i kn more).1 < wtL O kn)
  | 0, i, kn, more, _, _, _ => ⟨Nat.le_refl _, fun h => .inl h⟩
  | m + 1, i, kn, more, hn, hi, hL => by
    unfold roundG
    split
    · exact round_wt hm m (i + 1) kn more hn (by omega) hL
    · rename_i hne
      obtain ⟨h1, h2⟩ := low_step (by rw [hn]; exact hm) hL (by omega) hne
      have h3 := round_wt hm m (i + 1) (kn.set i (nx kn i)) true (by simp; exact hn) (by omega) h1
      exact ⟨by omega, fun _ => .inr (by omega)⟩
/-- at the end all is known -/
theorem grow_fix {O : Ord T} {nx : List T → Nat → T} {n : Nat} (hm : Mono O nx n) : ∀ (f : Nat) (kn : List T), kn.length = n → Low O nx kn → wtL O kn < f → ∀ j, j < n → (growG nx f kn)[j]? = some (nx (growG nx f kn) j)
  | 0, kn, _, _, h => by omega
  | f + 1, kn, hn, hL, hw => fun j hj => by
    have hk := round_keeps (nx := nx) (P := fun l => l.length = n ∧ Low O nx l) (fun l i h hi hne => ⟨by simp; exact h.1, (low_step (by rw [h.1]; exact hm) h.2 hi hne).1⟩) kn.length 0 kn false (by omega) ⟨hn, hL⟩
    have hr := round_wt hm kn.length 0 kn false hn (by omega) hL
    unfold growG
    split
    · rename_i h2
      rcases hr.2 h2 with h3 | h3
      · cases h3
      · exact grow_fix hm f _ hk.1.1 hk.1.2 (by omega) j hj
    · rename_i h2
      obtain ⟨_, h4, h5⟩ := round_still kn.length 0 kn false (by simpa using h2)
      rw [h4]
      exact h5 j (by omega) (by omega)
end
end Go.Proofs.Ytndhbdbfjkmloaa
namespace Go.Proofs.Ytndhbdbfjkmloaa
open Go.RowKit

def bwt (b : Bool) : Nat := if b then 0 else 1
def faOrd : Ord Fa where
  le x y := (x.e = true → y.e = true) ∧ (x.a = true → y.a = true) ∧ (x.f = true → y.f = true)
  wt x := bwt x.e + bwt x.a + bwt x.f
  refl x := ⟨id, id, id⟩
  trans h k := ⟨fun e => k.1 (h.1 e), fun e => k.2.1 (h.2.1 e), fun e => k.2.2 (h.2.2 e)⟩
  lt := by
    rintro ⟨a, b, c⟩ ⟨a', b', c'⟩
    revert a b c a' b' c'
    decide
def boOrd : Ord Bool where
  le x y := x = true → y = true
  wt := bwt
  refl x := id
  trans h k := fun e => k (h e)
  lt := by decide

theorem bot_le (y : Fa) : faOrd.le ⟨false, false, false⟩ y := ⟨(fun h => by cases h), (fun h => by cases h), (fun h => by cases h)⟩
theorem then_mono {a b c d : Fa} (h : faOrd.le a b) (k : faOrd.le c d) : faOrd.le (thenF a c) (thenF b d) := by
  obtain ⟨a1, a2, a3⟩ := a
  obtain ⟨b1, b2, b3⟩ := b
  obtain ⟨c1, c2, c3⟩ := c
  obtain ⟨d1, d2, d3⟩ := d
  obtain ⟨h1, h2, h3⟩ := h
  obtain ⟨k1, k2, k3⟩ := k
  simp only at h1 h2 h3 k1 k2 k3
  refine ⟨?_, ?_, ?_⟩ <;> simp only [thenF, Bool.and_eq_true, Bool.or_eq_true] <;> grind
theorem or_mono {a b c d : Fa} (h : faOrd.le a b) (k : faOrd.le c d) : faOrd.le (orF a c) (orF b d) := by
  obtain ⟨h1, h2, h3⟩ := h
  obtain ⟨k1, k2, k3⟩ := k
  refine ⟨?_, ?_, ?_⟩ <;> simp only [orF, Bool.and_eq_true, Bool.or_eq_true] <;> grind
theorem star_mono {a b : Fa} (h : faOrd.le a b) : faOrd.le (starF a) (starF b) := ⟨h.2.2, h.2.1, id⟩
theorem seq_mono : ∀ {l m : List Fa}, LeL faOrd l m → faOrd.le (seqF l) (seqF m)
  | [], [], _ => by simp only [seqF]; exact faOrd.refl _
  | [], y :: ys, h => by have := h.1; simp at this
  | x :: xs, [], h => by have := h.1; simp at this
  | x :: xs, y :: ys, h => by
    simp only [seqF]
    have h0 := h.2 0 x y rfl rfl
    have ht : LeL faOrd xs ys := ⟨by have := h.1; simpa using this, fun i u v hu hv => h.2 (i + 1) u v (by simpa using hu) (by simpa using hv)⟩
    clear h
    induction xs generalizing ys x y with
    | nil =>
      cases ys with
      | nil => exact h0
      | cons z zs => have := ht.1; simp at this
    | cons u us ih =>
      cases ys with
      | nil => have := ht.1; simp at this
      | cons z zs =>
        simp only [List.foldl_cons]
        exact ih (thenF x u) (thenF y z) zs (then_mono h0 (ht.2 0 u z rfl rfl)) ⟨by have := ht.1; simpa using this, fun i p q hp hq => ht.2 (i + 1) p q (by simpa using hp) (by simpa using hq)⟩
theorem alt_mono : ∀ {l m : List Fa}, LeL faOrd l m → faOrd.le (altF l) (altF m)
  | [], [], _ => by simp only [altF]; exact faOrd.refl _
  | [], y :: ys, h => by have := h.1; simp at this
  | x :: xs, [], h => by have := h.1; simp at this
  | [x], [y], h => by simp only [altF]; exact h.2 0 x y rfl rfl
  | [x], y :: z :: zs, h => by have := h.1; simp at this
  | x :: u :: us, [y], h => by have := h.1; simp at this
  | x :: u :: us, y :: z :: zs, h => by
    simp only [altF]
    exact or_mono (h.2 0 x y rfl rfl) (alt_mono (l := u :: us) (m := z :: zs) ⟨by have := h.1; simpa using this, fun i p q hp hq => h.2 (i + 1) p q (by simpa using hp) (by simpa using hq)⟩)
theorem kid_mono : ∀ {l m : List Fa}, LeL faOrd l m → faOrd.le (kid0 l) (kid0 m)
  | [], [], _ => by simp only [kid0]; exact faOrd.refl _
  | [], y :: ys, h => by have := h.1; simp at this
  | x :: xs, [], h => by have := h.1; simp at this
  | x :: xs, y :: ys, h => by simp only [kid0]; exact h.2 0 x y rfl rfl
theorem ofEs_mono {g : List Rl} {l m : List Fa} (ks : List Ex) (ih : ∀ e ∈ ks, faOrd.le (ofE g l e) (ofE g m e)) : LeL faOrd (ofEs g l ks) (ofEs g m ks) := by
  refine ⟨by rw [ofEs_len, ofEs_len], fun i x y hx hy => ?_⟩
  rw [ofEs_at, Option.map_eq_some_iff] at hx hy
  obtain ⟨e, he, rfl⟩ := hx
  obtain ⟨e', he', rfl⟩ := hy
  rw [he] at he'
  injection he' with he'
  subst he'
  exact ih e (List.mem_of_getElem? he)
theorem of_mono {g : List Rl} {l m : List Fa} (h : LeL faOrd l m) (e : Ex) : faOrd.le (ofE g l e) (ofE g m e) := by
  refine Ex.ind (P := fun e => faOrd.le (ofE g l e) (ofE g m e)) ?_ e
  intro k a b c d t ks ih
  have hk := ofEs_mono ks ih
  have h0 := kid_mono hk
  rw [ofE, ofE]
  by_cases k1 : k = 1
  · rw [if_pos k1, if_pos k1]
    exact faOrd.refl _
  rw [if_neg k1, if_neg k1]
  by_cases k2 : k = 2
  · rw [if_pos k2, if_pos k2]
    exact faOrd.refl _
  rw [if_neg k2, if_neg k2]
  by_cases k3 : k = 3
  · rw [if_pos k3, if_pos k3]
    exact faOrd.refl _
  rw [if_neg k3, if_neg k3]
  by_cases k4 : k = 4
  · rw [if_pos k4, if_pos k4]
    have hl := h.1
    by_cases hi : (fnd g t.data.toList).toNat < l.length
    · have h1 : l[(fnd g t.data.toList).toNat]? = some l[(fnd g t.data.toList).toNat] := List.getElem?_eq_getElem hi
      have h2 : m[(fnd g t.data.toList).toNat]? = some (m[(fnd g t.data.toList).toNat]'(by omega)) := List.getElem?_eq_getElem (by omega)
      have := h.2 _ _ _ h1 h2
      simp only [List.getD, h1, h2, Option.getD_some]
      exact this
    · simp only [List.getD, List.getElem?_eq_none (show l.length ≤ (fnd g t.data.toList).toNat by omega), List.getElem?_eq_none (show m.length ≤ (fnd g t.data.toList).toNat by omega)]
      exact faOrd.refl _
  rw [if_neg k4, if_neg k4]
  by_cases k5 : k = 5
  · rw [if_pos k5, if_pos k5]
    exact seq_mono hk
  rw [if_neg k5, if_neg k5]
  by_cases k6 : k = 6
  · rw [if_pos k6, if_pos k6]
    exact alt_mono hk
  rw [if_neg k6, if_neg k6]
  by_cases k7 : k = 7
  · rw [if_pos k7, if_pos k7]
    exact star_mono h0
  rw [if_neg k7, if_neg k7]
  by_cases k8 : k = 8
  · rw [if_pos k8, if_pos k8]
    exact then_mono h0 (star_mono h0)
  rw [if_neg k8, if_neg k8]
  by_cases k9 : k = 9
  · rw [if_pos k9, if_pos k9]
    exact or_mono h0 (faOrd.refl _)
  rw [if_neg k9, if_neg k9]
  obtain ⟨h1, h2, h3⟩ := h0
  have h12 : ((kid0 (ofEs g l ks)).e || (kid0 (ofEs g l ks)).a) = true → ((kid0 (ofEs g m ks)).e || (kid0 (ofEs g m ks)).a) = true := by
    simp only [Bool.or_eq_true]
    rintro (h | h)
    · exact .inl (h1 h)
    · exact .inr (h2 h)
  by_cases k10 : k = 10
  · rw [if_pos k10, if_pos k10]
    exact ⟨h12, id, h3⟩
  rw [if_neg k10, if_neg k10]
  exact ⟨h3, id, h12⟩

/-- the facts of a rule, by what is known of all -/
def nxF (g : List Rl) (kn : List Fa) (i : Nat) : Fa := match g[i]? with
  | some r => ofE g kn r.2
  | none => ⟨false, false, false⟩
def factsG (g : List Rl) : List Fa := growG (nxF g) (wtL faOrd (List.replicate g.length ⟨false, false, false⟩) + 1) (List.replicate g.length ⟨false, false, false⟩)
theorem nxF_mono (g : List Rl) (n : Nat) : Mono faOrd (nxF g) n := by
  intro l m _ h i
  unfold nxF
  split
  · exact of_mono h _
  · exact faOrd.refl _
theorem low_zero (g : List Rl) : Low faOrd (nxF g) (List.replicate g.length ⟨false, false, false⟩) := by
  intro i x hx
  rw [List.getElem?_replicate] at hx
  split at hx
  · injection hx with hx
    subst hx
    exact bot_le _
  · cases hx
theorem facts_len (g : List Rl) : (factsG g).length = g.length := by
  unfold factsG
  rw [(grow_keeps (nx := nxF g) (P := fun _ => True) (fun _ _ _ _ _ => trivial) _ _ trivial).2]
  simp
theorem facts_fix (g : List Rl) (i : Nat) (hi : i < g.length) : (factsG g)[i]? = some (nxF g (factsG g) i) :=
  grow_fix (nxF_mono g g.length) _ _ (by simp) (low_zero g) (by omega) i hi
end Go.Proofs.Ytndhbdbfjkmloaa
namespace Go.Proofs.Ytndhbdbfjkmloaa
open Go.RowKit

def hasN (l : List Nat) (b : Nat) : Bool := (l.getD (b / 64) 0).testBit (b % 64)
def vals (l : List Nat) : Value := .agg #[.int .u64 (l.getD 0 0 : Nat), .int .u64 (l.getD 1 0 : Nat), .int .u64 (l.getD 2 0 : Nat), .int .u64 (l.getD 3 0 : Nat)]
def Words (l : List Nat) : Prop := ∀ i, l.getD i 0 < 18446744073709551616

theorem and63_u8 : ∀ b : Fin 256, bits .and .u8 ((b : Nat) : Int) 63 = (((b : Nat) % 64 : Nat) : Int) := by decide +kernel
set_option maxRecDepth 100000 in
theorem has_any (l : List Nat) (hl : Words l) (b : Nat) (hb : b < 256) (w : World) :
    Calls Try.prog 70 #[vals l, .int .u8 b] w fun e w' => e = .returned (.bool (hasN l b)) ∧ Below w.heap.size w w' := by
  have hc : ∀ W : World, Hid (Blk W w.heap.size 24 #[.int .u64 (l.getD 0 0 : Nat), .int .u64 (l.getD 1 0 : Nat), .int .u64 (l.getD 2 0 : Nat), .int .u64 (l.getD 3 0 : Nat)] → W.cell? ⟨w.heap.size, b / 64, none⟩ = some (.int .u64 (l.getD (b / 64) 0 : Nat))) := fun W hb => by
    rcases (by omega : b / 64 = 0 ∨ b / 64 = 1 ∨ b / 64 = 2 ∨ b / 64 = 3) with h | h | h | h <;> rw [h]
    · exact hb.cell 0
    · exact hb.cell 1
    · exact hb.cell 2
    · exact hb.cell 3
  have hc0 := (hc (w.alloc (.cells #[.int .u64 (l.getD 0 0 : Nat), .int .u64 (l.getD 1 0 : Nat), .int .u64 (l.getD 2 0 : Nat), .int .u64 (l.getD 3 0 : Nat)] 24))).out (blk_at rfl)
  clear hc
  have hx := hl (b / 64)
  clear hl
  unfold vals
  have hand := and63_u8 ⟨b, hb⟩
  simp only at hand
  obtain ⟨q, hq⟩ : ∃ q : Nat, b / 64 = q := ⟨_, rfl⟩
  have hqi : (b : Int) / 64 = (q : Int) := by omega
  have hq0 : (0 : Int) ≤ (q : Int) := by omega
  have hq4 : (q : Int) < 4 := by omega
  obtain ⟨k, hk⟩ : ∃ k : Nat, b % 64 = k := ⟨_, rfl⟩
  rw [hk] at hand
  have HH : Hid (hasN l b = decide ((l.getD (b / 64) 0) / 2 ^ k % 2 = 1)) := by
    show hasN l b = _
    rw [hasN, Nat.testBit_eq_decide_div_mod_eq, hk]
  have hk64 : k < 64 := by omega
  have hk0 : (0 : Int) ≤ (k : Int) := by omega
  rw [hq] at hc0 hx HH
  generalize l.getD q 0 = x at hc0 hx HH
  have hbit : bits .and .u64 ((x : Int) / 2 ^ k) 1 = ((x / 2 ^ k % 2 : Nat) : Int) := by
    have h1 : x / 2 ^ k ≤ x := Nat.div_le_self _ _
    have := u64_and_nat (x / 2 ^ k) 1 (by omega) (by omega)
    rw [Nat.and_one_is_mod, show ((x / 2 ^ k : Nat) : Int) = (x : Int) / 2 ^ k from by simp] at this
    exact this
  rw [HH.out]
  generalize x / 2 ^ k % 2 = y at hbit ⊢
  generalize l.getD 0 0 = e0 at hc0 ⊢
  generalize l.getD 1 0 = e1 at hc0 ⊢
  generalize l.getD 2 0 = e2 at hc0 ⊢
  generalize l.getD 3 0 = e3 at hc0 ⊢
  clear HH hq hk
  go_enter Try.func70, Try.ntmps70
  go_wp2
  go_ret
  refine ⟨?_, (by repeat (first | exact Below.refl _ _ | assumption | refine Below.drew ?_ | refine below_drewN ?_ _ | refine Below.alloc ?_ (by first | omega | (simp; omega) | simp) _ | refine Below.setCell ?_ (by first | omega | (simp; omega) | simp) _))⟩
  show Ending.returned (.bool ((y : Int) == 1)) = _
  rw [show ((y : Int) == 1) = decide (y = 1) from by rw [Bool.eq_iff_iff]; simp; omega]

end Go.Proofs.Ytndhbdbfjkmloaa
namespace Go.Proofs.Ytndhbdbfjkmloaa

/-- is a byte in a set? -/
def hasE (a b c d : Int) (x : Nat) : Bool := hasN [a.toNat, b.toNat, c.toNat, d.toNat] x
/-- does a text stand at a place? -/
def litAt (s : List UInt8) (at_ : Nat) (t : List UInt8) : Bool := t.isPrefixOf (s.drop at_)

/-- what is to be done: an expression, one of one kid, a sequence's kids, alternatives, again and again -/
inductive Job where
  | ex (e : Ex)
  | kid (k : Int) (e : Ex)
  | seq (es : List Ex)
  | alt (es : List Ex)
  | rep (e : Ex)
/-- what comes of it at a place: none, it did not come to an end so soon; some none, it fails; some (some to), it takes all till there -/
def evJ (g : List Rl) (s : List UInt8) : Nat → Job → Nat → Option (Option Nat)
  | 0, _, _ => none
  | n + 1, .ex (.mk k a b c d t ks), p =>
    if k = 1 then some (some p)
    else if k = 2 then some (if p < s.length ∧ hasE a b c d (bt s p) = true then some (p + 1) else none)
    else if k = 3 then some (if litAt s p t.data.toList = true then some (p + t.size) else none)
    else if k = 4 then (match g[(fnd g t.data.toList).toNat]? with
      | some r => evJ g s n (.ex r.2) p
      | none => some none)
    else if k = 5 then evJ g s n (.seq ks) p
    else if k = 6 then evJ g s n (.alt ks) p
    else (match ks with
      | [] => some none
      | e :: _ => evJ g s n (.kid k e) p)
  | n + 1, .kid k e, p =>
    if k = 7 then evJ g s n (.rep e) p
    else match evJ g s n (.ex e) p with
      | none => none
      | some none => some (if k = 8 ∨ k = 10 then none else some p)
      | some (some to) => if k = 8 then evJ g s n (.rep e) to else if k = 9 then some (some to) else if k = 10 then some (some p) else some none
  | _ + 1, .seq [], p => some (some p)
  | n + 1, .seq (e :: es), p => match evJ g s n (.ex e) p with
    | none => none
    | some none => some none
    | some (some to) => evJ g s n (.seq es) to
  | _ + 1, .alt [], _ => some none
  | n + 1, .alt (e :: es), p => match evJ g s n (.ex e) p with
    | none => none
    | some none => evJ g s n (.alt es) p
    | some (some to) => some (some to)
  | n + 1, .rep e, p => match evJ g s n (.ex e) p with
    | none => none
    | some none => some (some p)
    | some (some to) => evJ g s n (.rep e) to
def ev (g : List Rl) (s : List UInt8) (n : Nat) (e : Ex) (p : Nat) : Option (Option Nat) := evJ g s n (.ex e) p
def evK (g : List Rl) (s : List UInt8) (n : Nat) (k : Int) (e : Ex) (p : Nat) : Option (Option Nat) := evJ g s n (.kid k e) p
def evS (g : List Rl) (s : List UInt8) (n : Nat) (es : List Ex) (p : Nat) : Option (Option Nat) := evJ g s n (.seq es) p
def evA (g : List Rl) (s : List UInt8) (n : Nat) (es : List Ex) (p : Nat) : Option (Option Nat) := evJ g s n (.alt es) p
def evR (g : List Rl) (s : List UInt8) (n : Nat) (e : Ex) (p : Nat) : Option (Option Nat) := evJ g s n (.rep e) p
theorem ev_s (g : List Rl) (s : List UInt8) (n : Nat) (k a b c d : Int) (t : ByteArray) (ks : List Ex) (p : Nat) : ev g s (n + 1) (.mk k a b c d t ks) p =
    if k = 1 then some (some p)
    else if k = 2 then some (if p < s.length ∧ hasE a b c d (bt s p) = true then some (p + 1) else none)
    else if k = 3 then some (if litAt s p t.data.toList = true then some (p + t.size) else none)
    else if k = 4 then (match g[(fnd g t.data.toList).toNat]? with
      | some r => ev g s n r.2 p
      | none => some none)
    else if k = 5 then evS g s n ks p
    else if k = 6 then evA g s n ks p
    else (match ks with
      | [] => some none
      | e :: _ => evK g s n k e p) := rfl
theorem evK_s (g : List Rl) (s : List UInt8) (n : Nat) (k : Int) (e : Ex) (p : Nat) : evK g s (n + 1) k e p =
    if k = 7 then evR g s n e p
    else match ev g s n e p with
      | none => none
      | some none => some (if k = 8 ∨ k = 10 then none else some p)
      | some (some to) => if k = 8 then evR g s n e to else if k = 9 then some (some to) else if k = 10 then some (some p) else some none := rfl
theorem evS_nil (g : List Rl) (s : List UInt8) (n p : Nat) : evS g s (n + 1) [] p = some (some p) := rfl
theorem evS_cons (g : List Rl) (s : List UInt8) (n : Nat) (e : Ex) (es : List Ex) (p : Nat) : evS g s (n + 1) (e :: es) p = match ev g s n e p with
    | none => none
    | some none => some none
    | some (some to) => evS g s n es to := rfl
theorem evA_nil (g : List Rl) (s : List UInt8) (n p : Nat) : evA g s (n + 1) [] p = some none := rfl
theorem evA_cons (g : List Rl) (s : List UInt8) (n : Nat) (e : Ex) (es : List Ex) (p : Nat) : evA g s (n + 1) (e :: es) p = match ev g s n e p with
    | none => none
    | some none => evA g s n es p
    | some (some to) => some (some to) := rfl
theorem evR_s (g : List Rl) (s : List UInt8) (n : Nat) (e : Ex) (p : Nat) : evR g s (n + 1) e p = match ev g s n e p with
    | none => none
    | some none => some (some p)
    | some (some to) => evR g s n e to := rfl

theorem ev_mono (g : List Rl) (s : List UInt8) : ∀ n, (∀ e p o, ev g s n e p = some o → ev g s (n + 1) e p = some o) ∧ (∀ k e p o, evK g s n k e p = some o → evK g s (n + 1) k e p = some o) ∧
    (∀ es p o, evS g s n es p = some o → evS g s (n + 1) es p = some o) ∧ (∀ es p o, evA g s n es p = some o → evA g s (n + 1) es p = some o) ∧ (∀ e p o, evR g s n e p = some o → evR g s (n + 1) e p = some o) := by
  intro n
  induction n with
  | zero => exact ⟨fun e p o h => (by cases h), fun k e p o h => (by cases h), fun es p o h => (by cases h), fun es p o h => (by cases h), fun e p o h => (by cases h)⟩
  | succ n ih =>
    obtain ⟨h1, h2, h3, h4, h5⟩ := ih
    refine ⟨?_, ?_, ?_, ?_, ?_⟩
    · rintro ⟨k, a, b, c, d, t, ks⟩ p o h
      rw [ev_s] at h
      rw [ev_s]
      by_cases k1 : k = 1
      · rw [if_pos k1] at h ⊢; exact h
      rw [if_neg k1] at h ⊢
      by_cases k2 : k = 2
      · rw [if_pos k2] at h ⊢; exact h
      rw [if_neg k2] at h ⊢
      by_cases k3 : k = 3
      · rw [if_pos k3] at h ⊢; exact h
      rw [if_neg k3] at h ⊢
      by_cases k4 : k = 4
      · rw [if_pos k4] at h ⊢
        cases hg : g[(fnd g t.data.toList).toNat]? with
        | none => rw [hg] at h; exact h
        | some r => rw [hg] at h; exact h1 _ _ _ h
      rw [if_neg k4] at h ⊢
      by_cases k5 : k = 5
      · rw [if_pos k5] at h ⊢; exact h3 _ _ _ h
      rw [if_neg k5] at h ⊢
      by_cases k6 : k = 6
      · rw [if_pos k6] at h ⊢; exact h4 _ _ _ h
      rw [if_neg k6] at h ⊢
      cases ks with
      | nil => exact h
      | cons e es => exact h2 _ _ _ _ h
    · intro k e p o h
      rw [evK_s] at h
      rw [evK_s]
      by_cases k7 : k = 7
      · rw [if_pos k7] at h ⊢; exact h5 _ _ _ h
      rw [if_neg k7] at h ⊢
      cases he : ev g s n e p with
      | none => rw [he] at h; cases h
      | some u =>
        rw [he] at h
        rw [h1 _ _ _ he]
        cases u with
        | none => exact h
        | some to =>
          simp only at h ⊢
          by_cases k8 : k = 8
          · rw [if_pos k8] at h ⊢; exact h5 _ _ _ h
          · rw [if_neg k8] at h ⊢; exact h
    · intro es p o h
      cases es with
      | nil => rw [evS_nil] at h; rw [evS_nil]; exact h
      | cons e es =>
        rw [evS_cons] at h
        rw [evS_cons]
        cases he : ev g s n e p with
        | none => rw [he] at h; cases h
        | some u =>
          rw [he] at h
          rw [h1 _ _ _ he]
          cases u with
          | none => exact h
          | some to => exact h3 _ _ _ h
    · intro es p o h
      cases es with
      | nil => rw [evA_nil] at h; rw [evA_nil]; exact h
      | cons e es =>
        rw [evA_cons] at h
        rw [evA_cons]
        cases he : ev g s n e p with
        | none => rw [he] at h; cases h
        | some u =>
          rw [he] at h
          rw [h1 _ _ _ he]
          cases u with
          | none => exact h4 _ _ _ h
          | some to => exact h
    · intro e p o h
      rw [evR_s] at h
      rw [evR_s]
      cases he : ev g s n e p with
      | none => rw [he] at h; cases h
      | some u =>
        rw [he] at h
        rw [h1 _ _ _ he]
        cases u with
        | none => exact h
        | some to => exact h5 _ _ _ h
theorem ev_le {g : List Rl} {s : List UInt8} {n m : Nat} {e : Ex} {p : Nat} {o : Option Nat} (h : ev g s n e p = some o) (hm : n ≤ m) : ev g s m e p = some o := by
  induction hm with
  | refl => exact h
  | step _ ih => exact (ev_mono g s _).1 _ _ _ ih
theorem evS_le {g : List Rl} {s : List UInt8} {n m : Nat} {e : List Ex} {p : Nat} {o : Option Nat} (h : evS g s n e p = some o) (hm : n ≤ m) : evS g s m e p = some o := by
  induction hm with
  | refl => exact h
  | step _ ih => exact (ev_mono g s _).2.2.1 _ _ _ ih
theorem evA_le {g : List Rl} {s : List UInt8} {n m : Nat} {e : List Ex} {p : Nat} {o : Option Nat} (h : evA g s n e p = some o) (hm : n ≤ m) : evA g s m e p = some o := by
  induction hm with
  | refl => exact h
  | step _ ih => exact (ev_mono g s _).2.2.2.1 _ _ _ ih
theorem evR_le {g : List Rl} {s : List UInt8} {n m : Nat} {e : Ex} {p : Nat} {o : Option Nat} (h : evR g s n e p = some o) (hm : n ≤ m) : evR g s m e p = some o := by
  induction hm with
  | refl => exact h
  | step _ ih => exact (ev_mono g s _).2.2.2.2 _ _ _ ih
theorem ev_eq {g : List Rl} {s : List UInt8} {n m : Nat} {e : Ex} {p : Nat} {o o' : Option Nat} (h : ev g s n e p = some o) (h' : ev g s m e p = some o') : o = o' := by
  have h1 := ev_le h (Nat.le_max_left n m)
  have h2 := ev_le h' (Nat.le_max_right n m)
  rw [h1] at h2
  injection h2
end Go.Proofs.Ytndhbdbfjkmloaa
namespace Go.Proofs.Ytndhbdbfjkmloaa

/-- the trees of what is to be done (where it succeeds) -/
def trJ (g : List Rl) (s : List UInt8) : Nat → Job → Nat → List Tr
  | 0, _, _ => []
  | n + 1, .ex (.mk k _ _ _ _ t ks), p =>
    if k = 1 ∨ k = 2 ∨ k = 3 then []
    else if k = 4 then (match g[(fnd g t.data.toList).toNat]? with
      | some r => (match evJ g s n (.ex r.2) p with
        | some (some q) => [.mk (fnd g t.data.toList).toNat p q (trJ g s n (.ex r.2) p)]
        | _ => [])
      | none => [])
    else if k = 5 then trJ g s n (.seq ks) p
    else if k = 6 then trJ g s n (.alt ks) p
    else (match ks with
      | [] => []
      | e :: _ => trJ g s n (.kid k e) p)
  | n + 1, .kid k e, p =>
    if k = 7 then trJ g s n (.rep e) p
    else if k = 8 then (match evJ g s n (.ex e) p with
      | some (some to) => trJ g s n (.ex e) p ++ trJ g s n (.rep e) to
      | _ => [])
    else if k = 9 then (match evJ g s n (.ex e) p with
      | some (some _) => trJ g s n (.ex e) p
      | _ => [])
    else []
  | _ + 1, .seq [], _ => []
  | n + 1, .seq (e :: es), p => match evJ g s n (.ex e) p with
    | some (some to) => trJ g s n (.ex e) p ++ trJ g s n (.seq es) to
    | _ => []
  | _ + 1, .alt [], _ => []
  | n + 1, .alt (e :: es), p => match evJ g s n (.ex e) p with
    | some (some _) => trJ g s n (.ex e) p
    | some none => trJ g s n (.alt es) p
    | none => []
  | n + 1, .rep e, p => match evJ g s n (.ex e) p with
    | some (some to) => trJ g s n (.ex e) p ++ trJ g s n (.rep e) to
    | _ => []

mutual
/-- a tree is what its rule takes at its place, and its kids lie within it, in order -/
inductive NestT (g : List Rl) (s : List UInt8) : Tr → Prop
  | mk (i p q : Nat) (r : Rl) (n : Nat) (ks : List Tr) : g[i]? = some r → ev g s n r.2 p = some (some q) → NestL g s p q ks → NestT g s (.mk i p q ks)
inductive NestL (g : List Rl) (s : List UInt8) : Nat → Nat → List Tr → Prop
  | nil (p q : Nat) : p ≤ q → NestL g s p q []
  | cons (p q i f u : Nat) (ks ts : List Tr) : p ≤ f → f ≤ u → NestT g s (.mk i f u ks) → NestL g s u q ts → NestL g s p q (.mk i f u ks :: ts)
end
theorem NestL.le {g : List Rl} {s : List UInt8} : ∀ {ts : List Tr} {p q : Nat}, NestL g s p q ts → p ≤ q
  | [], _, _, h => by cases h; assumption
  | _ :: ts, _, _, h => by
    cases h with
    | cons _ _ i f u ks _ h1 h2 h3 h4 =>
      have := NestL.le h4
      omega
theorem NestL.wide {g : List Rl} {s : List UInt8} : ∀ {ts : List Tr} {p a q : Nat}, NestL g s p a ts → a ≤ q → NestL g s p q ts
  | [], _, _, _, h, hq => by cases h; exact .nil _ _ (by omega)
  | _ :: ts, _, _, _, h, hq => by
    cases h with
    | cons _ _ i f u ks _ h1 h2 h3 h4 => exact .cons _ _ i f u ks _ h1 h2 h3 (NestL.wide h4 hq)
theorem NestL.app {g : List Rl} {s : List UInt8} {ys : List Tr} : ∀ {xs : List Tr} {p a q : Nat}, NestL g s p a xs → NestL g s a q ys → NestL g s p q (xs ++ ys)
  | [], p, a, q, h, h' => by
    cases h with
    | nil _ _ hpa =>
      rw [List.nil_append]
      cases h' with
      | nil _ _ hq => exact .nil _ _ (by omega)
      | cons _ _ i f u ks _ h1 h2 h3 h4 => exact .cons _ _ i f u ks _ (by omega) h2 h3 h4
  | _ :: xs, p, a, q, h, h' => by
    cases h with
    | cons _ _ i f u ks _ h1 h2 h3 h4 => exact .cons _ _ i f u ks _ h1 h2 h3 (NestL.app h4 h')
theorem nests {g : List Rl} {s : List UInt8} : ∀ (n : Nat) (j : Job) (p q : Nat), evJ g s n j p = some (some q) → NestL g s p q (trJ g s n j p)
  | 0, _, _, _, h => by cases h
  | n + 1, .ex (.mk k a b c d t ks), p, q, h => by
    rw [evJ.eq_def] at h
    dsimp only at h
    rw [trJ.eq_def]
    dsimp only
    by_cases h1 : k = 1
    · rw [if_pos h1] at h
      rw [if_pos (.inl h1)]
      injection h with h
      injection h with h
      exact .nil _ _ (by omega)
    rw [if_neg h1] at h
    by_cases h2 : k = 2
    · rw [if_pos h2] at h
      rw [if_pos (.inr (.inl h2))]
      injection h with h
      split at h
      · injection h with h
        exact .nil _ _ (by omega)
      · cases h
    rw [if_neg h2] at h
    by_cases h3 : k = 3
    · rw [if_pos h3] at h
      rw [if_pos (.inr (.inr h3))]
      injection h with h
      split at h
      · injection h with h
        exact .nil _ _ (by omega)
      · cases h
    rw [if_neg h3] at h
    rw [if_neg (by rintro (h | h | h) <;> contradiction)]
    by_cases h4 : k = 4
    · rw [if_pos h4] at h ⊢
      cases hr : g[(fnd g t.data.toList).toNat]? with
      | none => rw [hr] at h; cases h
      | some r =>
        rw [hr] at h
        dsimp only at h ⊢
        have hn := nests n (.ex r.2) p q h
        rw [h]
        exact .cons _ _ _ p q _ _ (Nat.le_refl _) hn.le (.mk _ p q r n _ hr h hn) (.nil _ _ (Nat.le_refl _))
    rw [if_neg h4] at h ⊢
    by_cases h5 : k = 5
    · rw [if_pos h5] at h ⊢
      exact nests n (.seq ks) p q h
    rw [if_neg h5] at h ⊢
    by_cases h6 : k = 6
    · rw [if_pos h6] at h ⊢
      exact nests n (.alt ks) p q h
    rw [if_neg h6] at h ⊢
    cases ks with
    | nil => cases h
    | cons e ks => exact nests n (.kid k e) p q h
  | n + 1, .kid k e, p, q, h => by
    rw [evJ.eq_def] at h
    dsimp only at h
    rw [trJ.eq_def]
    dsimp only
    by_cases h7 : k = 7
    · rw [if_pos h7] at h ⊢
      exact nests n (.rep e) p q h
    rw [if_neg h7] at h ⊢
    cases he : evJ g s n (.ex e) p with
    | none => rw [he] at h; cases h
    | some o =>
      rw [he] at h
      cases o with
      | none =>
        dsimp only at h ⊢
        injection h with h
        split at h
        · cases h
        · injection h with h
          subst h
          have : (if k = 8 then ([] : List Tr) else if k = 9 then [] else []) = [] := by simp
          rw [this]
          exact .nil _ _ (Nat.le_refl _)
      | some to =>
        dsimp only at h ⊢
        by_cases h8 : k = 8
        · rw [if_pos h8] at h ⊢
          exact (nests n (.ex e) p to he).app (nests n (.rep e) to q h)
        rw [if_neg h8] at h ⊢
        by_cases h9 : k = 9
        · rw [if_pos h9] at h ⊢
          injection h with h
          injection h with h
          subst h
          exact nests n (.ex e) p to he
        rw [if_neg h9] at h ⊢
        by_cases h10 : k = 10
        · rw [if_pos h10] at h
          injection h with h
          injection h with h
          exact .nil _ _ (by omega)
        · rw [if_neg h10] at h; cases h
  | n + 1, .seq [], p, q, h => by
    rw [evJ.eq_def] at h
    dsimp only at h
    rw [trJ.eq_def]
    dsimp only
    injection h with h
    injection h with h
    exact .nil _ _ (by omega)
  | n + 1, .seq (e :: es), p, q, h => by
    rw [evJ.eq_def] at h
    dsimp only at h
    rw [trJ.eq_def]
    dsimp only
    cases he : evJ g s n (.ex e) p with
    | none => rw [he] at h; cases h
    | some o =>
      rw [he] at h
      cases o with
      | none => cases h
      | some to => exact (nests n (.ex e) p to he).app (nests n (.seq es) to q h)
  | n + 1, .alt [], p, q, h => by rw [evJ.eq_def] at h; cases h
  | n + 1, .alt (e :: es), p, q, h => by
    rw [evJ.eq_def] at h
    dsimp only at h
    rw [trJ.eq_def]
    dsimp only
    cases he : evJ g s n (.ex e) p with
    | none => rw [he] at h; cases h
    | some o =>
      rw [he] at h
      cases o with
      | none => exact nests n (.alt es) p q h
      | some to =>
        dsimp only at h ⊢
        injection h with h
        injection h with h
        subst h
        exact nests n (.ex e) p to he
  | n + 1, .rep e, p, q, h => by
    rw [evJ.eq_def] at h
    dsimp only at h
    rw [trJ.eq_def]
    dsimp only
    cases he : evJ g s n (.ex e) p with
    | none => rw [he] at h; cases h
    | some o =>
      rw [he] at h
      cases o with
      | none =>
        injection h with h
        injection h with h
        exact .nil _ _ (by omega)
      | some to => exact (nests n (.ex e) p to he).app (nests n (.rep e) to q h)
end Go.Proofs.Ytndhbdbfjkmloaa
