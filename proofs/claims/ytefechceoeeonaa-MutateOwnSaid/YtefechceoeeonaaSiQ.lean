/- An expression made simpler stands for what it was: plain. -/
import Derived.Test.YtefechceoeeonaaSiP
namespace Go.Proofs.Ytefechceoeeonaa
open Go.RowKit

section
variable {g : List Rl} {fs : List Fa}
theorem listS_seq (H : Fits g fs) : ∀ (xs l : List Ex), (∀ e ∈ l, GoodE g fs e) → (∀ e ∈ xs, GoodE g fs e) → l.length + xs.length ≤ 8 → SqL g fs (l ++ xs) (listS g fs 5 xs l).1 ∧ (listS g fs 5 xs l).1.length ≤ 8
  | [], l, hl, _, h8 => ⟨by rw [List.append_nil]; exact .refl hl, by simpa [listS] using h8⟩
  | x :: xs, l, hl, hx, h8 => by
    have hx0 := hx x (by simp)
    have hxs : ∀ e ∈ xs, GoodE g fs e := fun e he => hx e (by simp [he])
    unfold listS
    split
    · rename_i h1
      obtain ⟨i1, i2⟩ := listS_seq H xs l hl hxs (by simp at h8; omega)
      refine ⟨?_, i2⟩
      have := ((SqL.skip hx0 h1.1).post (b := xs) hxs).pre H hl
      exact SqL.trans (by simpa using this) i1
    rename_i h1
    rw [if_neg (by simp [lastB])]
    by_cases hf : flatB 5 x l xs = true
    · rw [hf, if_pos rfl]
      unfold flatB at hf
      simp only [Bool.and_eq_true, decide_eq_true_eq] at hf
      obtain ⟨k, a, b, c, d, t, ks⟩ := x
      obtain rfl : k = 5 := hf.1
      have hks := hx0.kid
      have hl' : ∀ e ∈ l ++ ks, GoodE g fs e := fun e he => by
        rcases List.mem_append.1 he with he | he
        · exact hl e he
        · exact hks e he
      obtain ⟨i1, i2⟩ := listS_seq H xs (l ++ ks) hl' hxs (by rw [List.length_append]; exact hf.2)
      refine ⟨?_, i2⟩
      have := ((SqL.flat hx0).post (b := xs) hxs).pre H hl
      exact SqL.trans (by simpa using this) i1
    · rw [if_neg hf]
      have hl' : ∀ e ∈ l ++ [x], GoodE g fs e := fun e he => by
        rcases List.mem_append.1 he with he | he
        · exact hl e he
        · simp only [List.mem_singleton] at he; rw [he]; exact hx0
      obtain ⟨i1, i2⟩ := listS_seq H xs (l ++ [x]) hl' hxs (by simp at h8 ⊢; omega)
      exact ⟨by simpa using i1, i2⟩
theorem listS_alt (H : Fits g fs) : ∀ (xs l : List Ex), (∀ e ∈ l, GoodE g fs e) → (∀ e ∈ xs, GoodE g fs e) → l.length + xs.length ≤ 8 → AlL g fs (l ++ xs) (listS g fs 6 xs l).1 ∧ (listS g fs 6 xs l).1.length ≤ 8 ∧ (0 < l.length + xs.length → 0 < (listS g fs 6 xs l).1.length)
  | [], l, hl, _, h8 => ⟨by rw [List.append_nil]; exact .refl hl, by simpa [listS] using h8, fun h => by simpa [listS] using h⟩
  | x :: xs, l, hl, hx, h8 => by
    have hx0 := hx x (by simp)
    have hxs : ∀ e ∈ xs, GoodE g fs e := fun e he => hx e (by simp [he])
    have hlx : ∀ m : List Ex, (∀ e ∈ m, GoodE g fs e) → ∀ e ∈ l ++ m, GoodE g fs e := fun m hm e he => by
      rcases List.mem_append.1 he with he | he
      · exact hl e he
      · exact hm e he
    -- the kid's list, if it is laid within
    have hkid : AlL g fs [x] (if flatB 6 x l xs = true then x.ks else [x]) ∧ l.length + (if flatB 6 x l xs = true then x.ks else [x]).length + xs.length ≤ 8 ∧ 0 < (if flatB 6 x l xs = true then x.ks else [x]).length := by
      by_cases hf : flatB 6 x l xs = true
      · rw [if_pos hf]
        unfold flatB at hf
        simp only [Bool.and_eq_true, decide_eq_true_eq] at hf
        obtain ⟨k, a, b, c, d, t, ks⟩ := x
        obtain rfl : k = 6 := hf.1
        exact ⟨AlL.flat hx0, hf.2, by have := hx0.six; show 0 < ks.length; omega⟩
      · rw [if_neg hf]
        exact ⟨.refl fun e he => by simp only [List.mem_singleton] at he; rw [he]; exact hx0, by simp at h8 ⊢; omega, by simp⟩
    unfold listS
    rw [if_neg (by omega)]
    generalize (if flatB 6 x l xs = true then x.ks else [x]) = m at hkid ⊢
    obtain ⟨k1, k2, k3⟩ := hkid
    by_cases hc : lastB g fs 6 x xs = true
    · rw [if_pos hc]
      unfold lastB at hc
      simp only [Bool.and_eq_true, decide_eq_true_eq, Bool.not_eq_true'] at hc
      have h1 := (AlL.refl hl).app ((AlL.cut (xs := xs) H hx0 hc.2).trans k1)
      exact ⟨by simpa using h1, by rw [List.length_append]; omega, fun _ => by rw [List.length_append]; omega⟩
    · rw [if_neg hc]
      have step : AlL g fs (l ++ x :: xs) (l ++ m ++ xs) := by
        have := (AlL.refl hl).app (k1.app (AlL.refl hxs))
        simpa using this
      obtain ⟨i1, i2, i3⟩ := listS_alt H xs (l ++ m) (hlx m k1.good) hxs (by rw [List.length_append]; omega)
      exact ⟨step.trans i1, i2, fun _ => i3 (by rw [List.length_append]; omega)⟩
theorem fit_list {k a b c d : Int} {t : List UInt8} {n m : Nat} (h : fitB k a b c d t n = true) (hk : k = 5 ∨ k = 6) (h2 : 2 ≤ m) (h8 : m ≤ 8) : fitB k a b c d t m = true := by
  unfold fitB lims at h ⊢
  rw [if_neg (by omega), if_neg (by omega), if_neg (by omega), if_pos hk] at h ⊢
  simp only [Bool.and_eq_true, decide_eq_true_eq] at h ⊢
  exact ⟨⟨h.1.1, h2⟩, h8⟩
theorem good_node {k a b c d : Int} {t : ByteArray} {l : List Ex} (hf : fitB k a b c d t.data.toList l.length = true) (h4 : k ≠ 4) (hg : ∀ e ∈ l, GoodE g fs e) (h7 : k = 7 ∨ k = 8 → ∀ e, l = [e] → (ofE g fs e).e = false) : GoodE g fs (.mk k a b c d t l) := by
  have hl : loopsEs g fs l = false := by
    clear hf h7
    induction l with
    | nil => rw [loopsEs]
    | cons x l ih => rw [loopsEs, (hg x (by simp)).noloop, ih fun e he => hg e (by simp [he])]; rfl
  refine ⟨.mk _ _ _ _ _ _ _ hf (fun h => absurd h h4) fun e he => (hg e he).rt, ?_⟩
  rw [loopsE, hl, Bool.or_false, Bool.and_eq_false_iff]
  by_cases h78 : k = 7 ∨ k = 8
  · refine .inr ?_
    have hfc := fit_cases hf
    obtain ⟨x, rfl⟩ := one_of (show l.length = 1 by omega)
    rw [ofEs, ofEs, kid0]
    exact h7 h78 x rfl
  · refine .inl ?_
    simp
    omega
theorem zero_fit : fitB 1 0 0 0 0 (⟨#[]⟩ : ByteArray).data.toList 0 = true := by decide
theorem sound5 {kn : List Bool} {a b c d : Int} {t : ByteArray} {l : List Ex} : soundE g fs kn (.mk 5 a b c d t l) = soundS g fs kn l := by rw [soundE, if_neg (by decide), if_pos rfl]
theorem sound6 {kn : List Bool} {k a b c d : Int} {t : ByteArray} {l : List Ex} (h4 : k ≠ 4) (h5 : k ≠ 5) : soundE g fs kn (.mk k a b c d t l) = soundA g fs kn l := by rw [soundE, if_neg h4, if_neg h5]
/-- what becomes of a sequence -/
theorem top_seq {a b c d : Int} {t : ByteArray} {ks r : List Ex} {m : Bool} (h : GoodE g fs (.mk 5 a b c d t ks)) (hr : SqL g fs ks r) (h8 : r.length ≤ 8) : Lik g fs (.mk 5 a b c d t ks) (topS 5 a b c d t (r, m)).1 := by
  have hne : ks ≠ [] := ne_of_len (by have := h.five; omega)
  match r, hr, h8 with
  | [], hr, _ =>
    have hof : ∀ kn, ofE g kn (.mk 1 0 0 0 0 ⟨#[]⟩ []) = faE := fun kn => of_zero
    refine ⟨good_node zero_fit (by decide) (fun e he => by cases he) (fun h => by omega), fun kn hk => ?_, fun kn hs => ?_, fun s p o hp hs => ?_, ?_, ?_⟩
    · show ofE g kn (.mk 1 0 0 0 0 ⟨#[]⟩ []) = _
      rw [hof, of5 hne, ← hr.fa kn hk]; rfl
    · show soundE g fs kn (.mk 1 0 0 0 0 ⟨#[]⟩ []) = true
      rw [sound6 (by decide) (by decide), soundA]
    · have := semS_nil.1 (hr.sem s p o hp (sem5.1 hs))
      rw [this]
      exact ⟨1, by show ev g s 1 (.mk 1 0 0 0 0 ⟨#[]⟩ []) p = _; rw [ev_s, if_pos rfl]⟩
    · show nodes (.mk 1 0 0 0 0 ⟨#[]⟩ []) ≤ _
      simp only [nodes, nodesAll]; omega
    · show dep (.mk 1 0 0 0 0 ⟨#[]⟩ []) ≤ _
      simp only [dep, depAll]; omega
  | [y], hr, _ =>
    refine ⟨hr.good y (by simp), fun kn hk => ?_, fun kn hs => ?_, fun s p o hp hs => ?_, ?_, ?_⟩
    · rw [of5 hne, ← hr.fa kn hk]
      simp only [List.map_cons, List.map_nil, List.foldl_cons, List.foldl_nil]
      rw [then_nil]; rfl
    · rw [sound5] at hs
      have := hr.so kn [] (by simpa using hs)
      rw [List.append_nil, soundS] at this
      show soundE g fs kn y = true
      split at this
      · cases this
      · rename_i h1; simpa using h1
    · show Sem g s y p o
      rcases semS_cons.1 (hr.sem s p o hp (sem5.1 hs)) with ⟨q, h1, h2⟩ | ⟨h1, h2⟩
      · rw [semS_nil.1 h2]; exact h1
      · rw [h2]; exact h1
    · have := hr.sz
      simp only [nodes, nodesAll] at this ⊢
      show nodes y ≤ _
      omega
    · have := hr.dp
      simp only [dep, depAll] at this ⊢
      show dep y ≤ _
      omega
  | y :: z :: l, hr, h8 =>
    refine ⟨good_node (fit_list h.kids.2.1 (.inl rfl) (by simp) h8) (by decide) hr.good (fun h => by omega), fun kn hk => ?_, fun kn hs => ?_, fun s p o hp hs => ?_, ?_, ?_⟩
    · show ofE g kn (.mk 5 a b c d t (y :: z :: l)) = _
      rw [of5 (by simp), of5 hne, hr.fa kn hk]
    · show soundE g fs kn (.mk 5 a b c d t (y :: z :: l)) = _
      rw [sound5] at hs ⊢
      have := hr.so kn [] (by simpa using hs)
      simpa using this
    · exact sem5.2 (hr.sem s p o hp (sem5.1 hs))
    · have := hr.sz
      show nodes (.mk 5 a b c d t (y :: z :: l)) ≤ _
      simp only [nodes]
      omega
    · have := hr.dp
      show dep (.mk 5 a b c d t (y :: z :: l)) ≤ _
      simp only [dep]
      omega
theorem top_alt {a b c d : Int} {t : ByteArray} {ks r : List Ex} {m : Bool} (h : GoodE g fs (.mk 6 a b c d t ks)) (hr : AlL g fs ks r) (h8 : r.length ≤ 8) (h0 : 0 < r.length) : Lik g fs (.mk 6 a b c d t ks) (topS 6 a b c d t (r, m)).1 := by
  have hne : ks ≠ [] := ne_of_len (by have := h.six; omega)
  match r, hr, h8, h0 with
  | [y], hr, _, _ =>
    refine ⟨hr.good y (by simp), fun kn hk => ?_, fun kn hs => ?_, fun s p o hp hs => ?_, ?_, ?_⟩
    · rw [of6 hne, ← hr.fa kn hk]
      simp only [List.map_cons, List.map_nil, List.foldr_cons, List.foldr_nil]
      rw [or_unit]; rfl
    · rw [sound6 (by decide) (by decide)] at hs
      exact hr.so kn (soundA_all.1 hs) y (by simp)
    · show Sem g s y p o
      rcases semA_cons.1 (hr.sem s p o hp (sem6.1 hs)) with ⟨h1, h2⟩ | ⟨q, h1, h2⟩
      · rw [semA_nil.1 h2]; exact h1
      · rw [h2]; exact h1
    · have := hr.sz
      simp only [nodes, nodesAll] at this ⊢
      show nodes y ≤ _
      omega
    · have := hr.dp
      simp only [dep, depAll] at this ⊢
      show dep y ≤ _
      omega
  | y :: z :: l, hr, h8, _ =>
    refine ⟨good_node (fit_list h.kids.2.1 (.inr rfl) (by simp) h8) (by decide) hr.good (fun h => by omega), fun kn hk => ?_, fun kn hs => ?_, fun s p o hp hs => ?_, ?_, ?_⟩
    · show ofE g kn (.mk 6 a b c d t (y :: z :: l)) = _
      rw [of6 (by simp), of6 hne, hr.fa kn hk]
    · show soundE g fs kn (.mk 6 a b c d t (y :: z :: l)) = _
      rw [sound6 (by decide) (by decide)] at hs ⊢
      exact soundA_all.2 (hr.so kn (soundA_all.1 hs))
    · exact sem6.2 (hr.sem s p o hp (sem6.1 hs))
    · have := hr.sz
      show nodes (.mk 6 a b c d t (y :: z :: l)) ≤ _
      simp only [nodes]
      omega
    · have := hr.dp
      show dep (.mk 6 a b c d t (y :: z :: l)) ≤ _
      simp only [dep]
      omega
/-! of one kid -/
theorem semR_lik (H : Fits g fs) {x x' : Ex} (hx : GoodE g fs x) (h : Lik g fs x x') {s : List UInt8} : ∀ n {p : Nat} {o : Option Nat}, p ≤ s.length → evR g s n x p = some o → SemR g s x' p o
  | 0, _, _, _, h0 => by cases h0
  | n + 1, p, o, hp, h0 => by
    rw [evR_s] at h0
    cases he : ev g s n x p with
    | none => rw [he] at h0; cases h0
    | some u =>
      rw [he] at h0
      have hs := h.sem s p u hp ⟨n, he⟩
      cases u with
      | none => injection h0 with h0; exact semR_iff.2 (.inl ⟨hs, h0.symm⟩)
      | some q => exact semR_iff.2 (.inr ⟨q, hs, semR_lik H hx h n (sem_le H hx.rt hp ⟨n, he⟩).2 h0⟩)
def facK (k : Int) (x : Fa) : Fa := if k = 7 then starF x else if k = 8 then thenF x (starF x) else if k = 9 then orF x ⟨true, false, false⟩ else if k = 10 then ⟨x.e || x.a, false, x.f⟩ else ⟨x.f, false, x.e || x.a⟩
theorem of_kid {kn : List Fa} {k a b c d : Int} {t : ByteArray} {x : Ex} (h7 : 7 ≤ k) (h11 : k ≤ 11) : ofE g kn (.mk k a b c d t [x]) = facK k (ofE g kn x) := by
  rw [ofE, if_neg (by omega), if_neg (by omega), if_neg (by omega), if_neg (by omega), if_neg (by omega), if_neg (by omega), ofEs, ofEs, kid0]
  unfold facK
  rfl
theorem GoodE.one_kid {k a b c d : Int} {t : ByteArray} {ks : List Ex} (h : GoodE g fs (.mk k a b c d t ks)) (h7 : 7 ≤ k) : ∃ x, ks = [x] ∧ k ≤ 11 ∧ GoodE g fs x := by
  have hfc := fit_cases h.kids.2.1
  obtain ⟨x, rfl⟩ := one_of (show ks.length = 1 by omega)
  exact ⟨x, rfl, by omega, h.kid x (by simp)⟩
theorem Lik.kid (H : Fits g fs) {k a b c d : Int} {t : ByteArray} {x x' : Ex} (hg : GoodE g fs (.mk k a b c d t [x])) (h7 : 7 ≤ k) (h : Lik g fs x x') : Lik g fs (.mk k a b c d t [x]) (.mk k a b c d t [x']) := by
  obtain ⟨y, hy, h11, hx⟩ := hg.one_kid h7
  obtain rfl : x = y := by simpa using hy
  refine ⟨good_node hg.kids.2.1 (by omega) (fun e he => by simp only [List.mem_singleton] at he; rw [he]; exact h.good) (fun h78 e he => ?_), fun kn hk => ?_, fun kn hs => ?_, fun s p o hp hs => ?_, ?_, ?_⟩
  · obtain rfl : x' = e := by simpa using he
    rw [h.fa fs (LeL.refl _ _)]
    exact hg.kids.2.2.2 h78 x rfl
  · rw [of_kid h7 h11, of_kid h7 h11, h.fa kn hk]
  · rw [sound6 (by omega) (by omega)] at hs ⊢
    exact soundA_all.2 fun e he => by simp only [List.mem_singleton] at he; rw [he]; exact h.so kn (soundA_all.1 hs x (by simp))
  · by_cases k7 : k = 7
    · subst k7
      obtain ⟨n, hn⟩ := sem7.1 hs
      exact sem7.2 (semR_lik H hx h n hp hn)
    by_cases k8 : k = 8
    · subst k8
      rw [sem8] at hs ⊢
      rcases hs with ⟨h1, h2⟩ | ⟨q, h1, n, h2⟩
      · exact .inl ⟨h.sem s p _ hp h1, h2⟩
      · exact .inr ⟨q, h.sem s p _ hp h1, semR_lik H hx h n (sem_le H hx.rt hp h1).2 h2⟩
    rw [sem9 (by omega) h11] at hs ⊢
    obtain ⟨u, h1, h2⟩ := hs
    exact ⟨u, h.sem s p u hp h1, h2⟩
  · have := h.sz; simp only [nodes, nodesAll]; omega
  · have := h.dp; simp only [dep, depAll]; omega
end
end Go.Proofs.Ytefechceoeeonaa
