/- Greedy cover, plain: what is picked one by one, each time what says most that is new (Chvatal). -/
import Derived.Test.YtphfckihdhmhpaaGA
namespace Go.Proofs.Ytphfckihdhmhpaa

/-- how many numbers below N -/
def cntN (N : Nat) (p : Nat → Bool) : Nat := (List.range N).countP p
def newB (h r : Nat → Bool) : Nat → Bool := fun x => r x && !h x
def orB (h r : Nat → Bool) : Nat → Bool := fun x => h x || r x
def gainB (N : Nat) (h r : Nat → Bool) : Nat := cntN N (newB h r)
/-- what row i says -/
def sayR (rows : List (Nat → Bool)) (i : Nat) : Nat → Bool := match rows[i]? with
  | some r => r
  | none => fun _ => false
/-- what some rows say, all together -/
def unionB (rows : List (Nat → Bool)) (l : List Nat) : Nat → Bool := fun x => l.any fun i => sayR rows i x
def saidN (N : Nat) (rows : List (Nat → Bool)) (l : List Nat) : Nat := cntN N (unionB rows l)
theorem countP_or (h r : Nat → Bool) : ∀ l : List Nat, l.countP (orB h r) = l.countP h + l.countP (newB h r)
  | [] => rfl
  | x :: l => by
    have ih := countP_or h r l
    rw [List.countP_cons, List.countP_cons, List.countP_cons, ih]
    unfold orB newB
    cases h x <;> cases r x <;> simp <;> omega
theorem cnt_or (N : Nat) (h r : Nat → Bool) : cntN N (orB h r) = cntN N h + gainB N h r := countP_or h r _
theorem cntN_le (N : Nat) (p : Nat → Bool) : cntN N p ≤ N := by
  have := List.countP_le_length (p := p) (l := List.range N)
  rwa [List.length_range] at this
theorem cnt_mono {N : Nat} {p q : Nat → Bool} (h : ∀ x < N, p x = true → q x = true) : cntN N p ≤ cntN N q :=
  List.countP_mono_left fun x hx => h x (List.mem_range.1 hx)
theorem gain_anti {N : Nat} {h h' r : Nat → Bool} (hh : ∀ x, h x = true → h' x = true) : gainB N h' r ≤ gainB N h r :=
  cnt_mono fun x _ hx => by
    unfold newB at *
    have := hh x
    cases h1 : h x <;> cases h2 : h' x <;> simp_all
theorem union_snoc (rows : List (Nat → Bool)) (l : List Nat) (i : Nat) : unionB rows (l ++ [i]) = orB (unionB rows l) (sayR rows i) := by
  funext x
  unfold unionB orB
  rw [List.any_append]
  simp
theorem sayR_of {rows : List (Nat → Bool)} {i : Nat} {r : Nat → Bool} (h : rows[i]? = some r) : sayR rows i = r := by
  unfold sayR
  rw [h]
structure BestB (N : Nat) (rows : List (Nat → Bool)) (h : Nat → Bool) (i : Nat) (r : Nat → Bool) : Prop where
  at_ : rows[i]? = some r
  pos : 0 < gainB N h r
  most : ∀ q ∈ rows, gainB N h q ≤ gainB N h r
def PicksOk (N : Nat) (rows : List (Nat → Bool)) (l : List Nat) : Prop := ∀ k i : Nat, l[k]? = some i → ∃ r, BestB N rows (unionB rows (l.take k)) i r
theorem picks_nil (N : Nat) (rows : List (Nat → Bool)) : PicksOk N rows [] := fun k i h => by simp at h
theorem picks_snoc {N : Nat} {rows : List (Nat → Bool)} {l : List Nat} {i : Nat} {r : Nat → Bool} (h : PicksOk N rows l) (hb : BestB N rows (unionB rows l) i r) : PicksOk N rows (l ++ [i]) := by
  intro k j hk
  rcases Nat.lt_or_ge k l.length with hl | hl
  · rw [List.getElem?_append_left hl] at hk
    rw [List.take_append_of_le_length (Nat.le_of_lt hl)]
    exact h k j hk
  · rw [List.getElem?_append_right hl] at hk
    have h0 : k = l.length := by
      have := getElem?_lt hk
      simp at this
      omega
    subst h0
    simp only [Nat.sub_self, List.getElem?_cons_zero, Option.some.injEq] at hk
    subst hk
    rw [List.take_left']
    · exact ⟨r, hb⟩
    · rfl
section
variable {N : Nat} {rows : List (Nat → Bool)} {l : List Nat}
theorem take_snoc {k i : Nat} (h : l[k]? = some i) : unionB rows (l.take (k + 1)) = orB (unionB rows (l.take k)) (sayR rows i) := by
  rw [take_succ_of h, union_snoc]
theorem said_step {k i : Nat} {r : Nat → Bool} (h : l[k]? = some i) (hr : rows[i]? = some r) : saidN N rows (l.take (k + 1)) = saidN N rows (l.take k) + gainB N (unionB rows (l.take k)) r := by
  unfold saidN
  rw [take_snoc h, sayR_of hr, cnt_or]
theorem greedy_lt (P : PicksOk N rows l) {k i : Nat} (h : l[k]? = some i) : i < rows.length := by
  obtain ⟨r, hb⟩ := P k i h
  exact getElem?_lt hb.at_
theorem greedy_step (P : PicksOk N rows l) {k i : Nat} (h : l[k]? = some i) : saidN N rows (l.take k) + 1 ≤ saidN N rows (l.take (k + 1)) := by
  obtain ⟨r, hb⟩ := P k i h
  rw [said_step h hb.at_]
  have := hb.pos
  omega
theorem greedy_desc (P : PicksOk N rows l) {k i j : Nat} (h : l[k]? = some i) (h' : l[k + 1]? = some j) :
    saidN N rows (l.take (k + 1 + 1)) - saidN N rows (l.take (k + 1)) ≤ saidN N rows (l.take (k + 1)) - saidN N rows (l.take k) := by
  obtain ⟨r, hb⟩ := P k i h
  obtain ⟨q, hc⟩ := P (k + 1) j h'
  rw [said_step h hb.at_, said_step h' hc.at_, said_step h hb.at_]
  have h1 := hb.most q (List.mem_of_getElem? hc.at_)
  have h2 : gainB N (unionB rows (l.take (k + 1))) q ≤ gainB N (unionB rows (l.take k)) q := gain_anti fun x hx => by
    rw [take_snoc h]
    unfold orB
    rw [hx]
    rfl
  omega
theorem gain_zero {h r : Nat → Bool} (h0 : gainB N h r = 0) {x : Nat} (hx : x < N) (hr : r x = true) : h x = true := by
  unfold gainB cntN at h0
  rw [List.countP_eq_zero] at h0
  have := h0 x (List.mem_range.2 hx)
  unfold newB at this
  cases hh : h x
  · simp [hr, hh] at this
  · rfl
theorem union_all {x : Nat} : unionB rows (List.range rows.length) x = true ↔ ∃ q ∈ rows, q x = true := by
  unfold unionB
  rw [List.any_eq_true]
  constructor
  · rintro ⟨i, hi, hx⟩
    have hi := List.mem_range.1 hi
    rw [sayR_of (List.getElem?_eq_getElem hi)] at hx
    exact ⟨_, List.getElem_mem hi, hx⟩
  · rintro ⟨q, hq, hx⟩
    obtain ⟨i, hi, rfl⟩ := List.getElem_of_mem hq
    exact ⟨i, List.mem_range.2 hi, by rw [sayR_of (List.getElem?_eq_getElem hi)]; exact hx⟩
theorem union_some {m : List Nat} {x : Nat} (h : unionB rows m x = true) : ∃ q ∈ rows, q x = true := by
  unfold unionB at h
  rw [List.any_eq_true] at h
  obtain ⟨i, _, hx⟩ := h
  cases hi : rows[i]? with
  | none => unfold sayR at hx; rw [hi] at hx; cases hx
  | some r => rw [sayR_of hi] at hx; exact ⟨r, List.mem_of_getElem? hi, hx⟩
theorem said_le (m : List Nat) : saidN N rows m ≤ saidN N rows (List.range rows.length) := cnt_mono fun _ _ hx => union_all.2 (union_some hx)
theorem greedy_all (h0 : ∀ q ∈ rows, gainB N (unionB rows l) q = 0) : saidN N rows l = saidN N rows (List.range rows.length) := by
  refine Nat.le_antisymm (said_le l) (cnt_mono fun _ hx hu => ?_)
  obtain ⟨q, hq, hqx⟩ := union_all.1 hu
  exact gain_zero (h0 q hq) hx hqx
/-- as much said: the same said -/
theorem cnt_eq {p q : Nat → Bool} (h : ∀ x < N, p x = true → q x = true) (he : cntN N p = cntN N q) : ∀ x < N, q x = true → p x = true := by
  intro x hx hq
  cases hp : p x
  · exfalso
    have h1 : cntN N p + 1 ≤ cntN N q := by
      have h2 : cntN N q = cntN N p + gainB N p q := by
        rw [← cnt_or]
        have : ∀ x < N, orB p q x = q x := fun y hy => by
          unfold orB
          have := h y hy
          cases h1 : p y <;> cases h2 : q y <;> simp_all
        unfold cntN
        exact List.countP_congr fun _ hy => by rw [this _ (List.mem_range.1 hy)]
      have h3 : 0 < gainB N p q := by
        unfold gainB cntN
        rw [List.countP_pos_iff]
        exact ⟨x, List.mem_range.2 hx, by unfold newB; rw [hq, hp]; rfl⟩
      omega
    omega
  · rfl
theorem said_cover {m : List Nat} (h : saidN N rows m = saidN N rows (List.range rows.length)) : ∀ x < N, (∃ q ∈ rows, q x = true) → unionB rows m x = true :=
  fun x hx hq => cnt_eq (p := unionB rows m) (q := unionB rows (List.range rows.length)) (fun _ _ hy => union_all.2 (union_some hy)) h x hx (union_all.2 hq)
end

/-- c 1 + .. + c m -/
def sumC (c : Nat → Nat) : Nat → Nat
  | 0 => 0
  | m + 1 => sumC c m + c (m + 1)
theorem sumC_mono (c : Nat → Nat) {a b : Nat} (h : a ≤ b) : sumC c a ≤ sumC c b := by
  induction b with
  | zero => obtain rfl : a = 0 := by omega
            exact Nat.le_refl _
  | succ b ih =>
    rcases Nat.lt_or_ge b a with h1 | h1
    · obtain rfl : a = b + 1 := by omega
      exact Nat.le_refl _
    · exact Nat.le_trans (ih h1) (Nat.le_add_right _ _)
theorem sumC_step {c : Nat → Nat} (hc : ∀ a b, 0 < a → a ≤ b → c b ≤ c a) {n : Nat} : ∀ (u u' : Nat), u' ≤ u → u ≤ n → sumC c u' + (u - u') * c n ≤ sumC c u
  | 0, u', h, _ => by
    obtain rfl : u' = 0 := by omega
    simp
  | u + 1, u', h, hn => by
    rcases Nat.lt_or_ge u u' with h1 | h1
    · obtain rfl : u' = u + 1 := by omega
      simp
    · have ih := sumC_step hc (n := n) u u' h1 (by omega)
      have h2 := hc (u + 1) n (by omega) hn
      have h3 : (u + 1 - u') * c n = (u - u') * c n + c n := by rw [show u + 1 - u' = (u - u') + 1 by omega, Nat.add_mul, Nat.one_mul]
      rw [h3, sumC]
      omega
def sumM (f : Nat → Nat) : List Nat → Nat
  | [] => 0
  | j :: m => f j + sumM f m
theorem sumM_le {f : Nat → Nat} {b : Nat} (h : ∀ j, f j ≤ b) : ∀ m : List Nat, sumM f m ≤ m.length * b
  | [] => by simp [sumM]
  | j :: m => by
    have := sumM_le h m
    have h1 := h j
    rw [sumM, List.length_cons, Nat.add_mul, Nat.one_mul]
    omega
theorem sumM_step {f g d : Nat → Nat} {k : Nat} (h : ∀ j, f j + d j * k ≤ g j) : ∀ m : List Nat, sumM f m + sumM d m * k ≤ sumM g m
  | [] => by simp [sumM]
  | j :: m => by
    have := sumM_step h m
    have h1 := h j
    rw [sumM, sumM, sumM, Nat.add_mul]
    omega
theorem countP_cut (p s : Nat → Bool) : ∀ l : List Nat, l.countP p = l.countP (fun x => p x && s x) + l.countP (fun x => p x && !s x)
  | [] => rfl
  | x :: l => by
    have := countP_cut p s l
    rw [List.countP_cons, List.countP_cons, List.countP_cons, this]
    cases p x <;> cases s x <;> simp <;> omega
theorem cnt_cut (N : Nat) (p s : Nat → Bool) : cntN N p = cntN N (fun x => p x && s x) + cntN N (fun x => p x && !s x) := countP_cut p s _
theorem cnt_union {N : Nat} {s : Nat → Nat → Bool} : ∀ (m : List Nat) (p : Nat → Bool), (∀ x < N, p x = true → ∃ j ∈ m, s j x = true) → cntN N p ≤ sumM (fun j => cntN N fun x => p x && s j x) m
  | [], p, h => by
    have : cntN N p = 0 := by
      unfold cntN
      rw [List.countP_eq_zero]
      intro x hx hp
      obtain ⟨j, hj, _⟩ := h x (List.mem_range.1 hx) hp
      cases hj
    rw [this]
    exact Nat.zero_le _
  | j :: m, p, h => by
    have h1 := cnt_union m (fun x => p x && !s j x) fun x hx hp => by
      rw [Bool.and_eq_true, Bool.not_eq_true'] at hp
      obtain ⟨i, hi, hs⟩ := h x hx hp.1
      rcases List.mem_cons.1 hi with rfl | hi
      · rw [hp.2] at hs; cases hs
      · exact ⟨i, hi, hs⟩
    have h2 : sumM (fun i => cntN N fun x => (p x && !s j x) && s i x) m ≤ sumM (fun i => cntN N fun x => p x && s i x) m := by
      have : ∀ m : List Nat, sumM (fun i => cntN N fun x => (p x && !s j x) && s i x) m ≤ sumM (fun i => cntN N fun x => p x && s i x) m := by
        intro m
        induction m with
        | nil => exact Nat.le_refl _
        | cons i m ih =>
          have : cntN N (fun x => (p x && !s j x) && s i x) ≤ cntN N (fun x => p x && s i x) := cnt_mono fun x _ hx => by
            cases h1 : p x <;> cases h2 : s j x <;> cases h3 : s i x <;> simp_all
          rw [sumM, sumM]
          omega
      exact this m
    rw [cnt_cut N p (s j), sumM]
    omega
section
variable {N : Nat} {rows : List (Nat → Bool)} {l : List Nat} {c : Nat → Nat} {M : Nat}
theorem greedy_phi (hc : ∀ a b, 0 < a → a ≤ b → c b ≤ c a) (hM : ∀ n, 0 < n → M ≤ n * c n) (P : PicksOk N rows l) {m : List Nat} (hm : saidN N rows m = saidN N rows (List.range rows.length)) :
    ∀ k, k ≤ l.length → M * k + sumM (fun j => sumC c (gainB N (unionB rows (l.take k)) (sayR rows j))) m ≤ sumM (fun j => sumC c (gainB N (unionB rows (l.take 0)) (sayR rows j))) m
  | 0, _ => by simp
  | k + 1, hk => by
    have ih := greedy_phi hc hM P hm k (by omega)
    have hi : l[k]? = some l[k] := List.getElem?_eq_getElem (by omega)
    generalize l[k] = i at hi
    obtain ⟨r, hb⟩ := P k i hi
    have hstep : ∀ j, sumC c (gainB N (unionB rows (l.take (k + 1))) (sayR rows j)) + cntN N (fun x => newB (unionB rows (l.take k)) r x && sayR rows j x) * c (gainB N (unionB rows (l.take k)) r) ≤ sumC c (gainB N (unionB rows (l.take k)) (sayR rows j)) := by
      intro j
      have h1 : gainB N (unionB rows (l.take k)) (sayR rows j) = cntN N (fun x => newB (unionB rows (l.take k)) r x && sayR rows j x) + gainB N (unionB rows (l.take (k + 1))) (sayR rows j) := by
        unfold gainB
        rw [cnt_cut N _ r]
        congr 1
        · congr 1
          funext x
          unfold newB
          cases sayR rows j x <;> cases r x <;> cases unionB rows (l.take k) x <;> rfl
        · congr 1
          funext x
          rw [take_snoc hi, sayR_of hb.at_]
          unfold newB orB
          cases sayR rows j x <;> cases r x <;> cases unionB rows (l.take k) x <;> rfl
      have h2 : gainB N (unionB rows (l.take k)) (sayR rows j) ≤ gainB N (unionB rows (l.take k)) r := by
        cases hj : rows[j]? with
        | none =>
          have : gainB N (unionB rows (l.take k)) (sayR rows j) = 0 := by
            unfold gainB cntN
            rw [List.countP_eq_zero]
            intro x _ hx
            unfold newB sayR at hx
            rw [hj] at hx
            cases hx
          omega
        | some q =>
          rw [sayR_of hj]
          exact hb.most q (List.mem_of_getElem? hj)
      have h3 := sumC_step hc (gainB N (unionB rows (l.take k)) (sayR rows j)) (gainB N (unionB rows (l.take (k + 1))) (sayR rows j)) (by omega) h2
      rw [show cntN N (fun x => newB (unionB rows (l.take k)) r x && sayR rows j x) = gainB N (unionB rows (l.take k)) (sayR rows j) - gainB N (unionB rows (l.take (k + 1))) (sayR rows j) by omega]
      exact h3
    have h4 := sumM_step hstep m
    have h5 : gainB N (unionB rows (l.take k)) r ≤ sumM (fun j => cntN N fun x => newB (unionB rows (l.take k)) r x && sayR rows j x) m := cnt_union m _ fun x hx hp => by
      have hr : r x = true := by
        unfold newB at hp
        rw [Bool.and_eq_true] at hp
        exact hp.1
      have := said_cover hm x hx ⟨r, List.mem_of_getElem? hb.at_, hr⟩
      unfold unionB at this
      rwa [List.any_eq_true] at this
    have h6 := hM _ hb.pos
    have h7 := Nat.mul_le_mul_right (c (gainB N (unionB rows (l.take k)) r)) h5
    rw [Nat.mul_add, Nat.mul_one]
    omega
/-- CHVATAL -/
theorem greedy_bound (hc : ∀ a b, 0 < a → a ≤ b → c b ≤ c a) (hM : ∀ n, 0 < n → M ≤ n * c n) (P : PicksOk N rows l) {m : List Nat} (hm : saidN N rows m = saidN N rows (List.range rows.length)) {most : Nat} (hmost : ∀ r ∈ rows, cntN N r ≤ most) :
    l.length * M ≤ m.length * sumC c most := by
  have h1 := greedy_phi hc hM P hm l.length (Nat.le_refl _)
  have h2 : sumM (fun j => sumC c (gainB N (unionB rows (l.take 0)) (sayR rows j))) m ≤ m.length * sumC c most := sumM_le (fun j => sumC_mono c (by
    refine Nat.le_trans (cnt_mono (q := sayR rows j) fun x _ hx => ?_) ?_
    · unfold newB at hx
      rw [Bool.and_eq_true] at hx
      exact hx.1
    · cases hj : rows[j]? with
      | none =>
        have : cntN N (sayR rows j) = 0 := by
          unfold cntN
          rw [List.countP_eq_zero]
          intro x _ hx
          unfold sayR at hx
          rw [hj] at hx
          cases hx
        omega
      | some q =>
        rw [sayR_of hj]
        exact hmost q (List.mem_of_getElem? hj))) m
  rw [Nat.mul_comm l.length M]
  omega
end

/-! ### the fewest that say all, by all subsets -/
/-- the numbers below n that a number has as bits -/
def bitsOf (n s : Nat) : List Nat := (List.range n).filter fun i => s / 2 ^ i % 2 == 1
theorem bits_any : ∀ (n : Nat) (p : Nat → Bool), ∃ s, s < 2 ^ n ∧ ∀ i < n, (s / 2 ^ i % 2 == 1) = p i
  | 0, p => ⟨0, by simp, fun i hi => by omega⟩
  | n + 1, p => by
    obtain ⟨s, h1, h2⟩ := bits_any n fun i => p (i + 1)
    refine ⟨2 * s + (p 0).toNat, ?_, ?_⟩
    · have := Bool.toNat_le (p 0)
      rw [Nat.pow_succ]
      omega
    · intro i hi
      cases i with
      | zero =>
        cases p 0 <;> simp [Nat.add_mod]
      | succ i =>
        rw [Nat.pow_succ, Nat.mul_comm (2 ^ i) 2, ← Nat.div_div_eq_div_mul, show (2 * s + (p 0).toNat) / 2 = s by have := Bool.toNat_le (p 0); omega]
        exact h2 i (by omega)
theorem nodup_len : ∀ {a b : List Nat}, a.Nodup → (∀ x ∈ a, x ∈ b) → a.length ≤ b.length
  | [], b, _, _ => Nat.zero_le _
  | x :: a, b, hn, hs => by
    rw [List.nodup_cons] at hn
    have hx := hs x (by simp)
    have := nodup_len (a := a) (b := b.erase x) hn.2 fun y hy => by
      have h1 := hs y (by simp [hy])
      have h2 : y ≠ x := fun e => hn.1 (e ▸ hy)
      exact (List.mem_erase_of_ne h2).2 h1
    rw [List.length_erase_of_mem hx] at this
    have h3 : 0 < b.length := List.length_pos_of_mem hx
    rw [List.length_cons]
    omega
theorem bits_mem {n : Nat} {l : List Nat} (hl : ∀ i ∈ l, i < n) : ∃ s, s < 2 ^ n ∧ (∀ i, i ∈ bitsOf n s ↔ i ∈ l) ∧ (bitsOf n s).length ≤ l.length := by
  obtain ⟨s, h1, h2⟩ := bits_any n fun i => l.contains i
  have hm : ∀ i, i ∈ bitsOf n s ↔ i ∈ l := fun i => by
    unfold bitsOf
    rw [List.mem_filter, List.mem_range]
    constructor
    · rintro ⟨h3, h4⟩
      rw [h2 i h3] at h4
      simpa using h4
    · intro h3
      have h4 := hl i h3
      exact ⟨h4, by rw [h2 i h4]; simpa using h3⟩
  exact ⟨s, h1, hm, nodup_len (List.Pairwise.filter _ List.nodup_range) fun x hx => (hm x).1 hx⟩
theorem union_mem {rows : List (Nat → Bool)} {l m : List Nat} (h : ∀ i, i ∈ l ↔ i ∈ m) : unionB rows l = unionB rows m := by
  funext x
  rw [Bool.eq_iff_iff]
  unfold unionB
  rw [List.any_eq_true, List.any_eq_true]
  exact ⟨fun ⟨i, h1, h2⟩ => ⟨i, (h i).1 h1, h2⟩, fun ⟨i, h1, h2⟩ => ⟨i, (h i).2 h1, h2⟩⟩
/-- the state of the search: what is said at most, and the fewest that say it -/
def srch (N : Nat) (rows : List (Nat → Bool)) (st : Nat × Nat) (s : Nat) : Nat × Nat :=
  if st.1 < saidN N rows (bitsOf rows.length s) ∨ saidN N rows (bitsOf rows.length s) = st.1 ∧ (bitsOf rows.length s).length < st.2 then (saidN N rows (bitsOf rows.length s), (bitsOf rows.length s).length) else st
structure Srch (N : Nat) (rows : List (Nat → Bool)) (t : Nat) (st : Nat × Nat) : Prop where
  zero : t = 0 → st = (0, rows.length)
  le : ∀ s < t, saidN N rows (bitsOf rows.length s) ≤ st.1
  few : ∀ s < t, saidN N rows (bitsOf rows.length s) = st.1 → st.2 ≤ (bitsOf rows.length s).length
  is : 0 < t → ∃ s, s < t ∧ saidN N rows (bitsOf rows.length s) = st.1 ∧ (bitsOf rows.length s).length = st.2
theorem srch_zero (N : Nat) (rows : List (Nat → Bool)) : Srch N rows 0 (0, rows.length) := ⟨fun _ => rfl, fun s h => by omega, fun s h => by omega, fun h => by omega⟩
theorem bits_zero (n : Nat) : bitsOf n 0 = [] := by
  unfold bitsOf
  rw [List.filter_eq_nil_iff]
  intro i _
  simp
theorem said_nil (N : Nat) (rows : List (Nat → Bool)) : saidN N rows [] = 0 := by
  unfold saidN cntN
  rw [List.countP_eq_zero]
  intro x _ h
  cases h
theorem srch_step {N : Nat} {rows : List (Nat → Bool)} {t : Nat} {st : Nat × Nat} (h : Srch N rows t st) : Srch N rows (t + 1) (srch N rows st t) := by
  unfold srch
  split
  · rename_i hc
    refine ⟨fun h => by omega, fun s hs => ?_, fun s hs he => ?_, fun _ => ⟨t, by omega, rfl, rfl⟩⟩
    · rcases Nat.lt_or_ge s t with h1 | h1
      · have := h.le s h1
        rcases hc with hc | hc
        · show _ ≤ saidN N rows (bitsOf rows.length t); omega
        · show _ ≤ saidN N rows (bitsOf rows.length t); omega
      · obtain rfl : s = t := by omega
        exact Nat.le_refl _
    · rcases Nat.lt_or_ge s t with h1 | h1
      · have h2 := h.le s h1
        have he : saidN N rows (bitsOf rows.length s) = saidN N rows (bitsOf rows.length t) := he
        rcases hc with hc | hc
        · omega
        · have := h.few s h1 (by omega)
          show (bitsOf rows.length t).length ≤ _
          omega
      · obtain rfl : s = t := by omega
        exact Nat.le_refl _
  · rename_i hc
    refine ⟨fun h => by omega, fun s hs => ?_, fun s hs he => ?_, fun _ => ?_⟩
    · rcases Nat.lt_or_ge s t with h1 | h1
      · exact h.le s h1
      · obtain rfl : s = t := by omega
        omega
    · rcases Nat.lt_or_ge s t with h1 | h1
      · exact h.few s h1 he
      · obtain rfl : s = t := by omega
        omega
    · rcases Nat.eq_zero_or_pos t with h0 | h0
      · subst h0
        have hz := h.zero rfl
        refine ⟨0, by omega, ?_, ?_⟩
        · rw [bits_zero, said_nil, hz]
        · rw [bits_zero, said_nil, hz] at hc
          rw [bits_zero, hz]
          show 0 = rows.length
          have : ¬ (0 < rows.length) := fun h => hc (.inr ⟨rfl, h⟩)
          omega
      · obtain ⟨s, h1, h2⟩ := h.is h0
        exact ⟨s, by omega, h2⟩
/-- what the search ends with -/
theorem srch_end {N : Nat} {rows : List (Nat → Bool)} {st : Nat × Nat} (h : Srch N rows (2 ^ rows.length) st) :
    (∃ m, saidN N rows m = saidN N rows (List.range rows.length) ∧ m.length = st.2) ∧ ∀ l : List Nat, (∀ i ∈ l, i < rows.length) → saidN N rows l = saidN N rows (List.range rows.length) → st.2 ≤ l.length := by
  have hall : st.1 = saidN N rows (List.range rows.length) := by
    obtain ⟨s, h1, h2, h3⟩ := h.is (Nat.two_pow_pos _)
    refine Nat.le_antisymm (by rw [← h2]; exact said_le _) ?_
    obtain ⟨s, h1, h2, _⟩ := bits_mem (n := rows.length) (l := List.range rows.length) (fun i hi => List.mem_range.1 hi)
    have := h.le s h1
    unfold saidN at *
    rwa [union_mem h2] at this
  constructor
  · obtain ⟨s, h1, h2, h3⟩ := h.is (Nat.two_pow_pos _)
    exact ⟨bitsOf rows.length s, h2.trans hall, h3⟩
  · intro l hl hs
    obtain ⟨s, h1, h2, h3⟩ := bits_mem hl
    have h4 := h.few s h1 (by
      rw [hall, ← hs]
      unfold saidN
      rw [union_mem h2])
    omega
/-- a millionth's share, rounded up -/
def shr (i : Nat) : Nat := (1000000 + i - 1) / i
theorem shr_anti (a b : Nat) (ha : 0 < a) (hab : a ≤ b) : shr b ≤ shr a := by
  unfold shr
  rw [Nat.le_div_iff_mul_le ha]
  have h1 := Nat.div_mul_le_self (1000000 + b - 1) b
  have h2 : (1000000 + b - 1) / b ≤ 1000000 := by
    have : 1000000 + b - 1 < (1000000 + 1) * b := by
      have := Nat.mul_le_mul_left 1000000 (show 1 ≤ b by omega)
      rw [Nat.add_mul, Nat.one_mul]
      omega
    have := (Nat.div_lt_iff_lt_mul (by omega : 0 < b)).2 this
    omega
  generalize hq : (1000000 + b - 1) / b = q at *
  -- q * b ≤ 999999 + b, q ≤ 1000000; q * a ≤ 999999 + a
  rcases Nat.eq_zero_or_pos q with h0 | h0
  · subst h0; omega
  · have h3 : (q - 1) * a ≤ (q - 1) * b := Nat.mul_le_mul_left _ hab
    have h4 : q * b = (q - 1) * b + b := by
      conv => lhs; rw [show q = (q - 1) + 1 by omega, Nat.add_mul, Nat.one_mul]
    have h5 : q * a = (q - 1) * a + a := by
      conv => lhs; rw [show q = (q - 1) + 1 by omega, Nat.add_mul, Nat.one_mul]
    omega
theorem shr_share (n : Nat) (hn : 0 < n) : 1000000 ≤ n * shr n := by
  unfold shr
  have h1 := Nat.div_add_mod (1000000 + n - 1) n
  have h2 := Nat.mod_lt (1000000 + n - 1) hn
  omega
end Go.Proofs.Ytphfckihdhmhpaa
