/- An expression made simpler stands for what it was: plain. A grammar made simpler is as well as it was, has the same facts, and means the same: plain. A grammar whose rules stand for another's: as well, with the same facts, meaning the same; plain. Plain: with fewer kinds, or made simpler, the outcome is the same. code.Run of what code.Make wrote. chafftop.begun. -/
import Derived.Test.YtkmcnekjimobhaaJTopRoads25
import Derived.Test.YtkmcnekjimobhaaJTopRoads24
import Derived.Test.YtkmcnekjimobhaaJTopRoads23
import Derived.Test.YtkmcnekjimobhaaJTopRoads3
namespace Go.Proofs.Ytkmcnekjimobhaa
set_option maxRecDepth 100000
open Go.RowKit
section
variable {g : List Rl} {fs : List Fa}
theorem listS_seq (H : Fits g fs) : ∀ (xs l : List Ex), (∀ e ∈ l, GoodE g fs e) -> (∀ e ∈ xs, GoodE g fs e) -> l.length + xs.length <= 8 -> SqL g fs (l ++ xs) (listS g fs 5 xs l).1 /\ (listS g fs 5 xs l).1.length <= 8
  | [], l, hl, _, h8 => ⟨by rw [List.append_nil]; exact .refl hl, by simpa [listS] using h8⟩
  | x :: xs, l, hl, hx, h8 => by
    have hx0 := hx x (by simp)
    have hxs : ∀ e ∈ xs, GoodE g fs e := fun e he => hx e (by simp [he])
    unfold listS
    split
    · rename_i h1
      obtain ⟨i1, i2⟩ := listS_seq H xs l hl hxs (by simp at h8; omega)
      refine ⟨?_, i2⟩
      have := ((SqL.skip hx0 h1.1).post (b := xs) hxs).pre H hl
      exact SqL.trans (by simpa using this) i1
    rename_i h1
    rw [if_neg (by simp [lastB])]
    by_cases hf : flatB 5 x l xs = true
    · rw [hf, if_pos rfl]
      unfold flatB at hf
      simp only [Bool.and_eq_true, decide_eq_true_eq] at hf
      obtain ⟨k, a, b, c, d, t, ks⟩ := x
      obtain rfl : k = 5 := hf.1
      have hks := hx0.kid
      have hl' : ∀ e ∈ l ++ ks, GoodE g fs e := fun e he => by
        rcases List.mem_append.1 he with he | he
        · exact hl e he
        · exact hks e he
      obtain ⟨i1, i2⟩ := listS_seq H xs (l ++ ks) hl' hxs (by rw [List.length_append]; exact hf.2)
      refine ⟨?_, i2⟩
      have := ((SqL.flat hx0).post (b := xs) hxs).pre H hl
      exact SqL.trans (by simpa using this) i1
    · rw [if_neg hf]
      have hl' : ∀ e ∈ l ++ [x], GoodE g fs e := fun e he => by
        rcases List.mem_append.1 he with he | he
        · exact hl e he
        · simp only [List.mem_singleton] at he; rw [he]; exact hx0
      obtain ⟨i1, i2⟩ := listS_seq H xs (l ++ [x]) hl' hxs (by simp at h8 ⊢; omega)
      exact ⟨by simpa using i1, i2⟩
theorem listS_alt (H : Fits g fs) : ∀ (xs l : List Ex), (∀ e ∈ l, GoodE g fs e) -> (∀ e ∈ xs, GoodE g fs e) -> l.length + xs.length <= 8 -> AlL g fs (l ++ xs) (listS g fs 6 xs l).1 /\ (listS g fs 6 xs l).1.length <= 8 /\ (0 < l.length + xs.length -> 0 < (listS g fs 6 xs l).1.length)
  | [], l, hl, _, h8 => ⟨by rw [List.append_nil]; exact .refl hl, by simpa [listS] using h8, fun h => by simpa [listS] using h⟩
  | x :: xs, l, hl, hx, h8 => by
    have hx0 := hx x (by simp)
    have hxs : ∀ e ∈ xs, GoodE g fs e := fun e he => hx e (by simp [he])
    have hlx : ∀ m : List Ex, (∀ e ∈ m, GoodE g fs e) -> ∀ e ∈ l ++ m, GoodE g fs e := fun m hm e he => by
      rcases List.mem_append.1 he with he | he
      · exact hl e he
      · exact hm e he
    -- the kid's list, if it is laid within
    have hkid : AlL g fs [x] (if flatB 6 x l xs = true then x.ks else [x]) /\ l.length + (if flatB 6 x l xs = true then x.ks else [x]).length + xs.length <= 8 /\ 0 < (if flatB 6 x l xs = true then x.ks else [x]).length := by
      by_cases hf : flatB 6 x l xs = true
      · rw [if_pos hf]
        unfold flatB at hf
        simp only [Bool.and_eq_true, decide_eq_true_eq] at hf
        obtain ⟨k, a, b, c, d, t, ks⟩ := x
        obtain rfl : k = 6 := hf.1
        exact ⟨AlL.flat hx0, hf.2, by have := hx0.six; show 0 < ks.length; omega⟩
      · rw [if_neg hf]
        exact ⟨.refl fun e he => by simp only [List.mem_singleton] at he; rw [he]; exact hx0, by simp at h8 ⊢; omega, by simp⟩
    unfold listS
    rw [if_neg (by omega)]
    generalize (if flatB 6 x l xs = true then x.ks else [x]) = m at hkid ⊢
    obtain ⟨k1, k2, k3⟩ := hkid
    by_cases hc : lastB g fs 6 x xs = true
    · rw [if_pos hc]
      unfold lastB at hc
      simp only [Bool.and_eq_true, decide_eq_true_eq, Bool.not_eq_true'] at hc
      have h1 := (AlL.refl hl).app ((AlL.cut (xs := xs) H hx0 hc.2).trans k1)
      exact ⟨by simpa using h1, by rw [List.length_append]; omega, fun _ => by rw [List.length_append]; omega⟩
    · rw [if_neg hc]
      have step : AlL g fs (l ++ x :: xs) (l ++ m ++ xs) := by
        have := (AlL.refl hl).app (k1.app (AlL.refl hxs))
        simpa using this
      obtain ⟨i1, i2, i3⟩ := listS_alt H xs (l ++ m) (hlx m k1.good) hxs (by rw [List.length_append]; omega)
      exact ⟨step.trans i1, i2, fun _ => i3 (by rw [List.length_append]; omega)⟩
theorem fit_list {k a b c d : Int} {t : List UInt8} {n m : Nat} (h : fitB k a b c d t n = true) (hk : k = 5 \/ k = 6) (h2 : 2 <= m) (h8 : m <= 8) : fitB k a b c d t m = true := by
  unfold fitB lims at h ⊢
  rw [if_neg (by omega), if_neg (by omega), if_neg (by omega), if_pos hk] at h ⊢
  simp only [Bool.and_eq_true, decide_eq_true_eq] at h ⊢
  exact ⟨⟨h.1.1, h2⟩, h8⟩
theorem good_node {k a b c d : Int} {t : ByteArray} {l : List Ex} (hf : fitB k a b c d t.data.toList l.length = true) (h4 : k ≠ 4) (hg : ∀ e ∈ l, GoodE g fs e) (h7 : k = 7 \/ k = 8 -> ∀ e, l = [e] -> (ofE g fs e).e = false) : GoodE g fs (.mk k a b c d t l) := by
  have hl : loopsEs g fs l = false := by
    clear hf h7
    induction l with
    | nil => rw [loopsEs]
    | cons x l ih => rw [loopsEs, (hg x (by simp)).noloop, ih fun e he => hg e (by simp [he])]; rfl
  refine ⟨.mk _ _ _ _ _ _ _ hf (fun h => absurd h h4) fun e he => (hg e he).rt, ?_⟩
  rw [loopsE, hl, Bool.or_false, Bool.and_eq_false_iff]
  by_cases h78 : k = 7 \/ k = 8
  · refine .inr ?_
    have hfc := fit_cases hf
    obtain ⟨x, rfl⟩ := one_of (show l.length = 1 by omega)
    rw [ofEs, ofEs, kid0]
    exact h7 h78 x rfl
  · refine .inl ?_
    simp
    omega
theorem zero_fit : fitB 1 0 0 0 0 (⟨#[]⟩ : ByteArray).data.toList 0 = true := by decide
theorem sound5 {kn : List Bool} {a b c d : Int} {t : ByteArray} {l : List Ex} : soundE g fs kn (.mk 5 a b c d t l) = soundS g fs kn l := by rw [soundE, if_neg (by decide), if_pos rfl]
theorem sound6 {kn : List Bool} {k a b c d : Int} {t : ByteArray} {l : List Ex} (h4 : k ≠ 4) (h5 : k ≠ 5) : soundE g fs kn (.mk k a b c d t l) = soundA g fs kn l := by rw [soundE, if_neg h4, if_neg h5]
theorem top_seq {a b c d : Int} {t : ByteArray} {ks r : List Ex} {m : Bool} (h : GoodE g fs (.mk 5 a b c d t ks)) (hr : SqL g fs ks r) (h8 : r.length <= 8) : Lik g fs (.mk 5 a b c d t ks) (topS 5 a b c d t (r, m)).1 := by
  have hne : ks ≠ [] := ne_of_len (by have := h.five; omega)
  match r, hr, h8 with
  | [], hr, _ =>
    have hof : ∀ kn, ofE g kn (.mk 1 0 0 0 0 ⟨#[]⟩ []) = faE := fun kn => of_zero
    refine ⟨good_node zero_fit (by decide) (fun e he => by cases he) (fun h => by omega), fun kn hk => ?_, fun kn hs => ?_, fun s p o hp hs => ?_, ?_, ?_⟩
    · show ofE g kn (.mk 1 0 0 0 0 ⟨#[]⟩ []) = _
      rw [hof, of5 hne, <- hr.fa kn hk]; rfl
    · show soundE g fs kn (.mk 1 0 0 0 0 ⟨#[]⟩ []) = true
      rw [sound6 (by decide) (by decide), soundA]
    · have := semS_nil.1 (hr.sem s p o hp (sem5.1 hs))
      rw [this]
      exact ⟨1, by show ev g s 1 (.mk 1 0 0 0 0 ⟨#[]⟩ []) p = _; rw [ev_s, if_pos rfl]⟩
    · show nodes (.mk 1 0 0 0 0 ⟨#[]⟩ []) <= _
      simp only [nodes, nodesAll]; omega
    · show depX (.mk 1 0 0 0 0 ⟨#[]⟩ []) <= _
      simp only [depX, depAll]; omega
  | [y], hr, _ =>
    refine ⟨hr.good y (by simp), fun kn hk => ?_, fun kn hs => ?_, fun s p o hp hs => ?_, ?_, ?_⟩
    · rw [of5 hne, <- hr.fa kn hk]
      simp only [List.map_cons, List.map_nil, List.foldl_cons, List.foldl_nil]
      rw [then_nil]; rfl
    · rw [sound5] at hs
      have := hr.so kn [] (by simpa using hs)
      rw [List.append_nil, soundS] at this
      show soundE g fs kn y = true
      split at this
      · cases this
      · rename_i h1; simpa using h1
    · show Sem g s y p o
      rcases semS_cons.1 (hr.sem s p o hp (sem5.1 hs)) with ⟨q, h1, h2⟩ | ⟨h1, h2⟩
      · rw [semS_nil.1 h2]; exact h1
      · rw [h2]; exact h1
    · have := hr.sz
      simp only [nodes, nodesAll] at this ⊢
      show nodes y <= _
      omega
    · have := hr.dp
      simp only [depX, depAll] at this ⊢
      show depX y <= _
      omega
  | y :: z :: l, hr, h8 =>
    refine ⟨good_node (fit_list h.kids.2.1 (.inl rfl) (by simp) h8) (by decide) hr.good (fun h => by omega), fun kn hk => ?_, fun kn hs => ?_, fun s p o hp hs => ?_, ?_, ?_⟩
    · show ofE g kn (.mk 5 a b c d t (y :: z :: l)) = _
      rw [of5 (by simp), of5 hne, hr.fa kn hk]
    · show soundE g fs kn (.mk 5 a b c d t (y :: z :: l)) = _
      rw [sound5] at hs ⊢
      have := hr.so kn [] (by simpa using hs)
      simpa using this
    · exact sem5.2 (hr.sem s p o hp (sem5.1 hs))
    · have := hr.sz
      show nodes (.mk 5 a b c d t (y :: z :: l)) <= _
      simp only [nodes]
      omega
    · have := hr.dp
      show depX (.mk 5 a b c d t (y :: z :: l)) <= _
      simp only [depX]
      omega
theorem top_alt {a b c d : Int} {t : ByteArray} {ks r : List Ex} {m : Bool} (h : GoodE g fs (.mk 6 a b c d t ks)) (hr : AlL g fs ks r) (h8 : r.length <= 8) (h0 : 0 < r.length) : Lik g fs (.mk 6 a b c d t ks) (topS 6 a b c d t (r, m)).1 := by
  have hne : ks ≠ [] := ne_of_len (by have := h.six; omega)
  match r, hr, h8, h0 with
  | [y], hr, _, _ =>
    refine ⟨hr.good y (by simp), fun kn hk => ?_, fun kn hs => ?_, fun s p o hp hs => ?_, ?_, ?_⟩
    · rw [of6 hne, <- hr.fa kn hk]
      simp only [List.map_cons, List.map_nil, List.foldr_cons, List.foldr_nil]
      rw [or_unit]; rfl
    · rw [sound6 (by decide) (by decide)] at hs
      exact hr.so kn (soundA_all.1 hs) y (by simp)
    · show Sem g s y p o
      rcases semA_cons.1 (hr.sem s p o hp (sem6.1 hs)) with ⟨h1, h2⟩ | ⟨q, h1, h2⟩
      · rw [semA_nil.1 h2]; exact h1
      · rw [h2]; exact h1
    · have := hr.sz
      simp only [nodes, nodesAll] at this ⊢
      show nodes y <= _
      omega
    · have := hr.dp
      simp only [depX, depAll] at this ⊢
      show depX y <= _
      omega
  | y :: z :: l, hr, h8, _ =>
    refine ⟨good_node (fit_list h.kids.2.1 (.inr rfl) (by simp) h8) (by decide) hr.good (fun h => by omega), fun kn hk => ?_, fun kn hs => ?_, fun s p o hp hs => ?_, ?_, ?_⟩
    · show ofE g kn (.mk 6 a b c d t (y :: z :: l)) = _
      rw [of6 (by simp), of6 hne, hr.fa kn hk]
    · show soundE g fs kn (.mk 6 a b c d t (y :: z :: l)) = _
      rw [sound6 (by decide) (by decide)] at hs ⊢
      exact soundA_all.2 (hr.so kn (soundA_all.1 hs))
    · exact sem6.2 (hr.sem s p o hp (sem6.1 hs))
    · have := hr.sz
      show nodes (.mk 6 a b c d t (y :: z :: l)) <= _
      simp only [nodes]
      omega
    · have := hr.dp
      show depX (.mk 6 a b c d t (y :: z :: l)) <= _
      simp only [depX]
      omega
theorem semR_lik (H : Fits g fs) {x x' : Ex} (hx : GoodE g fs x) (h : Lik g fs x x') {s : List UInt8} : ∀ n {p : Nat} {o : Option Nat}, p <= s.length -> evR g s n x p = some o -> SemR g s x' p o
  | 0, _, _, _, h0 => by cases h0
  | n + 1, p, o, hp, h0 => by
    rw [evR_s] at h0
    cases he : ev g s n x p with
    | none => rw [he] at h0; cases h0
    | some u =>
      rw [he] at h0
      have hs := h.sem s p u hp ⟨n, he⟩
      cases u with
      | none => injection h0 with h0; exact semR_iff.2 (.inl ⟨hs, h0.symm⟩)
      | some q => exact semR_iff.2 (.inr ⟨q, hs, semR_lik H hx h n (sem_le H hx.rt hp ⟨n, he⟩).2 h0⟩)
def facK (k : Int) (x : Fa) : Fa := if k = 7 then starF x else if k = 8 then thenF x (starF x) else if k = 9 then orF x ⟨true, false, false⟩ else if k = 10 then ⟨x.e || x.a, false, x.f⟩ else ⟨x.f, false, x.e || x.a⟩
theorem of_kid {kn : List Fa} {k a b c d : Int} {t : ByteArray} {x : Ex} (h7 : 7 <= k) (h11 : k <= 11) : ofE g kn (.mk k a b c d t [x]) = facK k (ofE g kn x) := by
  rw [ofE, if_neg (by omega), if_neg (by omega), if_neg (by omega), if_neg (by omega), if_neg (by omega), if_neg (by omega), ofEs, ofEs, kid0]
  unfold facK
  rfl
theorem GoodE.one_kid {k a b c d : Int} {t : ByteArray} {ks : List Ex} (h : GoodE g fs (.mk k a b c d t ks)) (h7 : 7 <= k) : ∃ x, ks = [x] /\ k <= 11 /\ GoodE g fs x := by
  have hfc := fit_cases h.kids.2.1
  obtain ⟨x, rfl⟩ := one_of (show ks.length = 1 by omega)
  exact ⟨x, rfl, by omega, h.kid x (by simp)⟩
theorem Lik.kid (H : Fits g fs) {k a b c d : Int} {t : ByteArray} {x x' : Ex} (hg : GoodE g fs (.mk k a b c d t [x])) (h7 : 7 <= k) (h : Lik g fs x x') : Lik g fs (.mk k a b c d t [x]) (.mk k a b c d t [x']) := by
  obtain ⟨y, hy, h11, hx⟩ := hg.one_kid h7
  obtain rfl : x = y := by simpa using hy
  refine ⟨good_node hg.kids.2.1 (by omega) (fun e he => by simp only [List.mem_singleton] at he; rw [he]; exact h.good) (fun h78 e he => ?_), fun kn hk => ?_, fun kn hs => ?_, fun s p o hp hs => ?_, ?_, ?_⟩
  · obtain rfl : x' = e := by simpa using he
    rw [h.fa fs (LeL.refl _ _)]
    exact hg.kids.2.2.2 h78 x rfl
  · rw [of_kid h7 h11, of_kid h7 h11, h.fa kn hk]
  · rw [sound6 (by omega) (by omega)] at hs ⊢
    exact soundA_all.2 fun e he => by simp only [List.mem_singleton] at he; rw [he]; exact h.so kn (soundA_all.1 hs x (by simp))
  · by_cases k7 : k = 7
    · subst k7
      obtain ⟨n, hn⟩ := sem7.1 hs
      exact sem7.2 (semR_lik H hx h n hp hn)
    by_cases k8 : k = 8
    · subst k8
      rw [sem8] at hs ⊢
      rcases hs with ⟨h1, h2⟩ | ⟨q, h1, n, h2⟩
      · exact .inl ⟨h.sem s p _ hp h1, h2⟩
      · exact .inr ⟨q, h.sem s p _ hp h1, semR_lik H hx h n (sem_le H hx.rt hp h1).2 h2⟩
    rw [sem9 (by omega) h11] at hs ⊢
    obtain ⟨u, h1, h2⟩ := hs
    exact ⟨u, h.sem s p u hp h1, h2⟩
  · have := h.sz; simp only [nodes, nodesAll]; omega
  · have := h.dp; simp only [depX, depAll]; omega
end
section
variable {g : List Rl} {fs : List Fa}
theorem semR_some {s : List UInt8} {x : Ex} : ∀ n {p : Nat} {o : Option Nat}, evR g s n x p = some o -> o ≠ none
  | 0, _, _, h => by cases h
  | n + 1, p, o, h => by
    rw [evR_s] at h
    cases he : ev g s n x p with
    | none => rw [he] at h; cases h
    | some u =>
      rw [he] at h
      cases u with
      | none => injection h with h; rw [<- h]; simp
      | some q => exact semR_some n h
theorem kid_sound {kn : List Bool} {k a b c d : Int} {t : ByteArray} {x : Ex} (h7 : 7 <= k) : soundE g fs kn (.mk k a b c d t [x]) = soundE g fs kn x := by
  rw [sound6 (by omega) (by omega)]
  cases h : soundE g fs kn x
  · cases h' : soundA g fs kn [x]
    · rfl
    · have := soundA_all.1 h' x (by simp); rw [h] at this; cases this
  · exact soundA_all.2 fun e he => by simp only [List.mem_singleton] at he; rw [he]; exact h
theorem fit_kid (k : Int) (h7 : 7 <= k) (h11 : k <= 11) : fitB k 0 0 0 0 (⟨#[]⟩ : ByteArray).data.toList 1 = true := by
  unfold fitB lims
  rw [if_neg (by omega), if_neg (by omega), if_neg (by omega), if_neg (by omega), if_pos ⟨h7, h11⟩]
  simp
theorem single_lik {k a b c d : Int} {t : ByteArray} {x : Ex} (h : GoodE g fs (.mk k a b c d t [x])) (h9 : 9 <= k) : Lik g fs (.mk k a b c d t [x]) (singleS (.mk k a b c d t [x])).1 := by
  obtain ⟨x', hx', h11, hx⟩ := h.one_kid (by omega)
  obtain rfl : x = x' := by simpa using hx'
  clear hx'
  obtain ⟨k2, a2, b2, c2, d2, t2, ks⟩ := x
  rw [single_two]
  split
  · rename_i hc
    obtain ⟨rfl, rfl⟩ := hc
    obtain ⟨y, rfl, _, hy⟩ := hx.one_kid (by decide)
    unfold ofN
    refine ⟨good_node (fit_kid 10 (by decide) (by decide)) (by decide) (fun e he => by simp only [List.mem_singleton] at he; rw [he]; exact hy) (fun h => by omega), fun kn _ => ?_, fun kn hs => ?_, fun s p o hp hs => ?_, by simp only [nodes, nodesAll]; omega, by simp only [depX, depAll]; omega⟩
    · rw [of_kid (by decide) (by decide), of_kid (by decide) (by decide), of_kid (by decide) (by decide)]
      simp [facK]
    · rw [kid_sound (by decide), kid_sound (by decide)] at hs
      rw [kid_sound (by decide)]; exact hs
    · rw [sem9 (by decide) (by decide)] at hs ⊢
      obtain ⟨u, h1, rfl⟩ := hs
      rw [sem9 (by decide) (by decide)] at h1
      obtain ⟨v, h2, rfl⟩ := h1
      exact ⟨v, h2, by cases v <;> simp [lookK]⟩
  split
  · rename_i hc
    obtain ⟨rfl, rfl⟩ := hc
    obtain ⟨y, rfl, _, hy⟩ := hx.one_kid (by decide)
    unfold ofN
    refine ⟨good_node (fit_kid 11 (by decide) (by decide)) (by decide) (fun e he => by simp only [List.mem_singleton] at he; rw [he]; exact hy) (fun h => by omega), fun kn _ => ?_, fun kn hs => ?_, fun s p o hp hs => ?_, by simp only [nodes, nodesAll]; omega, by simp only [depX, depAll]; omega⟩
    · rw [of_kid (by decide) (by decide), of_kid (by decide) (by decide), of_kid (by decide) (by decide)]
      simp [facK]
    · rw [kid_sound (by decide), kid_sound (by decide)] at hs
      rw [kid_sound (by decide)]; exact hs
    · rw [sem9 (by decide) (by decide)] at hs ⊢
      obtain ⟨u, h1, rfl⟩ := hs
      rw [sem9 (by decide) (by decide)] at h1
      obtain ⟨v, h2, rfl⟩ := h1
      exact ⟨v, h2, by cases v <;> simp [lookK]⟩
  split
  · rename_i hc
    have h7 : 7 <= k2 := by omega
    obtain ⟨y, rfl, h211, hy⟩ := hx.one_kid h7
    refine ⟨hx, fun kn _ => ?_, fun kn hs => ?_, fun s p o hp hs => ?_, by simp only [nodes, nodesAll]; omega, by simp only [depX, depAll]; omega⟩
    · rw [of_kid (by omega) h11, of_kid h7 h211]
      rcases hc with ⟨rfl, rfl | rfl⟩ | ⟨rfl, rfl | rfl⟩ <;> simp [facK, orF, starF]
    · rw [kid_sound (by omega)] at hs
      exact hs
    · rw [sem9 h9 h11] at hs
      obtain ⟨u, h1, rfl⟩ := hs
      suffices hh : lookK k p u = u by rw [hh]; exact h1
      rcases hc with ⟨rfl, hc⟩ | ⟨rfl, rfl | rfl⟩
      · rw [sem9 (by omega) (by omega)] at h1
        obtain ⟨v, _, rfl⟩ := h1
        rcases hc with rfl | rfl <;> cases v <;> simp [lookK]
      · rw [sem9 (by omega) (by omega)] at h1
        obtain ⟨v, _, rfl⟩ := h1
        cases v <;> simp [lookK]
      · rw [sem7] at h1
        obtain ⟨n, h1⟩ := h1
        cases u with
        | none => exact absurd rfl (semR_some n h1)
        | some q => simp [lookK]
  split
  · rename_i hc
    obtain ⟨rfl, rfl⟩ := hc
    have hne := hx.kids.2.2.2 (.inr rfl)
    obtain ⟨y, rfl, _, hy⟩ := hx.one_kid (by decide)
    have hy0 := hne y rfl
    unfold ofN
    refine ⟨good_node (fit_kid 7 (by decide) (by decide)) (by decide) (fun e he => by simp only [List.mem_singleton] at he; rw [he]; exact hy) (fun _ e he => by simp only [List.cons.injEq, and_true] at he; rw [<- he]; exact hy0), fun kn hk => ?_, fun kn hs => ?_, fun s p o hp hs => ?_, by simp only [nodes, nodesAll]; omega, by simp only [depX, depAll]; omega⟩
    · rw [of_kid (by decide) (by decide), of_kid (by decide) (by decide), of_kid (by decide) (by decide)]
      have hm := (of_mono (g := g) hk y).1
      have hy1 : (ofE g kn y).e = false := by
        cases hh : (ofE g kn y).e
        · rfl
        · rw [hm hh] at hy0; cases hy0
      generalize ofE g kn y = v at hy1
      obtain ⟨e, a', f⟩ := v
      simp only at hy1
      subst hy1
      cases a' <;> cases f <;> simp [facK, orF, starF, thenF]
    · rw [kid_sound (by decide), kid_sound (by decide)] at hs
      rw [kid_sound (by decide)]; exact hs
    · rw [sem9 (by decide) (by decide)] at hs
      obtain ⟨u, h1, rfl⟩ := hs
      rw [sem7]
      rw [sem8] at h1
      rcases h1 with ⟨h1, rfl⟩ | ⟨q, h1, n, h2⟩
      · exact semR_iff.2 (.inl ⟨h1, by simp [lookK]⟩)
      · cases u with
        | none => exact absurd rfl (semR_some n h2)
        | some r => exact semR_iff.2 (.inr ⟨q, h1, n, by simpa [lookK] using h2⟩)
  · exact Lik.refl h
theorem sim_lik (H : Fits g fs) (e : Ex) : GoodE g fs e -> Lik g fs e (simE g fs e).1 := by
  refine Ex.ind (P := fun e => GoodE g fs e -> Lik g fs e (simE g fs e).1) ?_ e
  intro k a b c d t ks ih hg
  have hk := hg.kid
  have hl : ∀ e ∈ ks, Lik g fs e (simE g fs e).1 := fun e he => ih e he (hk e he)
  have hfc := fit_cases hg.kids.2.1
  unfold simE
  rw [simEs_map]
  by_cases h5 : k = 5
  · subst h5
    rw [if_pos (.inl rfl)]
    have h1 := SqL.map H (f := fun e => (simE g fs e).1) hk hl
    obtain ⟨h2, h3⟩ := listS_seq H (ks.map fun e => (simE g fs e).1) [] (fun e he => by cases he) h1.good (by simp; have := hg.five; omega)
    exact top_seq hg (h1.trans (by simpa using h2)) h3
  by_cases h6 : k = 6
  · subst h6
    rw [if_pos (.inr rfl)]
    have h1 := AlL.map (f := fun e => (simE g fs e).1) hl
    obtain ⟨h2, h3, h4⟩ := listS_alt H (ks.map fun e => (simE g fs e).1) [] (fun e he => by cases he) h1.good (by simp; have := hg.six; omega)
    exact top_alt hg (h1.trans (by simpa using h2)) h3 (h4 (by simp; have := hg.six; omega))
  rw [if_neg (by omega)]
  by_cases h7 : 7 <= k
  · obtain ⟨x, rfl, h11, hx⟩ := hg.one_kid h7
    have h1 := Lik.kid H hg h7 (hl x (by simp))
    by_cases h9 : 9 <= k /\ k <= 11
    · rw [if_pos h9]
      exact h1.trans (single_lik h1.good h9.1)
    · rw [if_neg h9]
      exact h1
  · rw [if_neg (by omega)]
    obtain rfl : ks = [] := nil_of (by omega)
    exact Lik.refl hg
end
theorem single_sz : ∀ e : Ex, nodes (singleS e).1 <= nodes e /\ ((singleS e).2 = true -> nodes (singleS e).1 < nodes e)
  | .mk k a b c d t [] => ⟨Nat.le_refl _, fun h => by cases h⟩
  | .mk k a b c d t (.mk k2 a2 b2 c2 d2 t2 ks :: xs) => by
    rw [single_two]
    have h1 : ∀ k', nodes (ofN k' ks) = 1 + nodesAll ks := fun k' => by unfold ofN; rw [nodes]
    have h2 : nodes (.mk k a b c d t (.mk k2 a2 b2 c2 d2 t2 ks :: xs)) = 1 + (1 + nodesAll ks + nodesAll xs) := by rw [nodes, nodesAll, nodes]
    have h3 : nodes (.mk k2 a2 b2 c2 d2 t2 ks) = 1 + nodesAll ks := by rw [nodes]
    split
    · simp only [h1, h2]; exact ⟨by omega, fun _ => by omega⟩
    split
    · simp only [h1, h2]; exact ⟨by omega, fun _ => by omega⟩
    split
    · simp only [h3, h2]; exact ⟨by omega, fun _ => by omega⟩
    split
    · simp only [h1, h2]; exact ⟨by omega, fun _ => by omega⟩
    · exact ⟨Nat.le_refl _, fun h => by cases h⟩
theorem list_sz {g : List Rl} {fs : List Fa} {k : Int} : ∀ xs l : List Ex, nodesAll (listS g fs k xs l).1 <= nodesAll l + nodesAll xs /\ ((listS g fs k xs l).2 = true -> nodesAll (listS g fs k xs l).1 < nodesAll l + nodesAll xs)
  | [], l => ⟨by simp [listS, nodesAll], fun h => by cases h⟩
  | x :: xs, l => by
    have hp := nodes_pos x
    have hxs : 0 < xs.length -> 0 < nodesAll xs := fun h => by
      cases xs with
      | nil => simp at h
      | cons y ys => have := nodes_pos y; simp only [nodesAll]; omega
    unfold listS
    rw [nodesAll]
    split
    · obtain ⟨i1, i2⟩ := list_sz (g := g) (fs := fs) (k := k) xs l
      exact ⟨by simp only; omega, fun _ => by simp only; omega⟩
    have hm : nodesAll (l ++ (if flatB k x l xs = true then x.ks else [x])) <= nodesAll l + nodes x /\ (flatB k x l xs = true -> nodesAll (l ++ (if flatB k x l xs = true then x.ks else [x])) < nodesAll l + nodes x) := by
      obtain ⟨k2, a2, b2, c2, d2, t2, ks⟩ := x
      rw [nodesAll_app]
      split
      · simp only [Ex.ks, nodes]; exact ⟨by omega, fun _ => by omega⟩
      · rename_i h; simp only [nodesAll]; exact ⟨by omega, fun h' => absurd h' h⟩
    split
    · rename_i hc
      unfold lastB at hc
      simp only [Bool.and_eq_true, decide_eq_true_eq] at hc
      have := hxs hc.1.2
      exact ⟨by simp only; omega, fun _ => by simp only; omega⟩
    · obtain ⟨i1, i2⟩ := list_sz (g := g) (fs := fs) (k := k) xs (l ++ (if flatB k x l xs = true then x.ks else [x]))
      refine ⟨by simp only; omega, fun h => ?_⟩
      simp only [Bool.or_eq_true] at h ⊢
      rcases h with h | h
      · have := hm.2 h; omega
      · have := i2 h; omega
theorem top_sz {k a b c d : Int} {t : ByteArray} : ∀ r : List Ex × Bool, nodes (topS k a b c d t r).1 <= 1 + nodesAll r.1 /\ ((topS k a b c d t r).2 = true -> r.2 = true \/ nodes (topS k a b c d t r).1 < 1 + nodesAll r.1)
  | ([], m) => ⟨by simp [topS, ofN, nodes, nodesAll], fun h => .inl h⟩
  | ([y], m) => ⟨by simp only [topS, nodesAll]; omega, fun _ => .inr (by simp only [topS, nodesAll]; omega)⟩
  | (y :: z :: l, m) => ⟨by simp only [topS, nodes]; omega, fun h => .inl h⟩
theorem sim_sz {g : List Rl} {fs : List Fa} (e : Ex) : nodes (simE g fs e).1 <= nodes e /\ ((simE g fs e).2 = true -> nodes (simE g fs e).1 < nodes e) := by
  refine Ex.ind (P := fun e => nodes (simE g fs e).1 <= nodes e /\ ((simE g fs e).2 = true -> nodes (simE g fs e).1 < nodes e)) ?_ e
  intro k a b c d t ks ih
  have hk : ∀ l : List Ex, (∀ x ∈ l, x ∈ ks) -> nodesAll (simEs g fs l).1 <= nodesAll l /\ ((simEs g fs l).2 = true -> nodesAll (simEs g fs l).1 < nodesAll l) := by
    intro l
    induction l with
    | nil => intro _; exact ⟨by simp [simEs], fun h => by cases h⟩
    | cons x xs ihl =>
      intro hm
      obtain ⟨i1, i2⟩ := ihl fun y hy => hm y (by simp [hy])
      obtain ⟨j1, j2⟩ := ih x (hm x (by simp))
      rw [simEs, nodesAll, nodesAll]
      refine ⟨by omega, fun h => ?_⟩
      simp only [Bool.or_eq_true] at h
      rcases h with h | h
      · have := j2 h; omega
      · have := i2 h; omega
  obtain ⟨i1, i2⟩ := hk ks fun x hx => hx
  unfold simE
  rw [nodes]
  split
  · obtain ⟨l1, l2⟩ := list_sz (g := g) (fs := fs) (k := k) (simEs g fs ks).1 []
    obtain ⟨t1, t2⟩ := top_sz (k := k) (a := a) (b := b) (c := c) (d := d) (t := t) (listS g fs k (simEs g fs ks).1 [])
    simp only [nodesAll, Nat.zero_add] at l1 l2
    refine ⟨by simp only; omega, fun h => ?_⟩
    simp only [Bool.or_eq_true] at h ⊢
    rcases h with h | h
    · have := i2 h; omega
    · rcases t2 h with h | h
      · have := l2 h; omega
      · omega
  split
  · obtain ⟨t1, t2⟩ := single_sz (.mk k a b c d t (simEs g fs ks).1)
    rw [nodes] at t1 t2
    refine ⟨by simp only; omega, fun h => ?_⟩
    simp only [Bool.or_eq_true] at h ⊢
    rcases h with h | h
    · have := i2 h; omega
    · have := t2 h; omega
  · rw [nodes]
    exact ⟨by omega, fun h => by have := i2 h; omega⟩
theorem simG_sz (g : List Rl) : nodesG (simG g).1 <= nodesG g /\ ((simG g).2 = true -> nodesG (simG g).1 < nodesG g) := by
  unfold simG nodesG
  simp only
  generalize factsG g = fs
  generalize hg : g = g0
  have : ∀ l : List Rl, ((l.map fun r => (r.1, (simE g0 fs r.2).1)).map fun r => nodes r.2).sum <= (l.map fun r => nodes r.2).sum /\ (l.any (fun r => (simE g0 fs r.2).2) = true -> ((l.map fun r => (r.1, (simE g0 fs r.2).1)).map fun r => nodes r.2).sum < (l.map fun r => nodes r.2).sum) := by
    intro l
    induction l with
    | nil => exact ⟨Nat.le_refl _, fun h => by cases h⟩
    | cons r l ih =>
      obtain ⟨i1, i2⟩ := ih
      obtain ⟨j1, j2⟩ := sim_sz (g := g0) (fs := fs) r.2
      simp only [List.map_cons, List.sum_cons, List.any_cons, Bool.or_eq_true]
      refine ⟨by omega, fun h => ?_⟩
      rcases h with h | h
      · have := j2 h; omega
      · have := i2 h; omega
  exact this g0
theorem fndFrom_names : ∀ {g h : List Rl}, h.map Prod.fst = g.map Prod.fst -> ∀ (t : List UInt8) (i : Nat), fndFrom h t i = fndFrom g t i
  | [], [], _, _, _ => rfl
  | [], _ :: _, h, _, _ => by simp at h
  | _ :: _, [], h, _, _ => by simp at h
  | r :: g, r' :: h, hn, t, i => by
    simp only [List.map_cons, List.cons.injEq] at hn
    rw [fndFrom, fndFrom, hn.1, fndFrom_names hn.2 t (i + 1)]
section
variable {g h : List Rl}
theorem ofE_fnd (hf : ∀ t, fnd h t = fnd g t) (kn : List Fa) (e : Ex) : ofE h kn e = ofE g kn e := by
  refine Ex.ind (P := fun e => ofE h kn e = ofE g kn e) ?_ e
  intro k a b c d t ks ih
  have hm : ofEs h kn ks = ofEs g kn ks := by
    rw [ofEs_map, ofEs_map]
    exact List.map_congr_left ih
  rw [ofE, ofE, hm, hf]
theorem loopsE_fnd (hf : ∀ t, fnd h t = fnd g t) (fs : List Fa) (e : Ex) : loopsE h fs e = loopsE g fs e := by
  refine Ex.ind (P := fun e => loopsE h fs e = loopsE g fs e) ?_ e
  intro k a b c d t ks ih
  have hm : ofEs h fs ks = ofEs g fs ks := by
    rw [ofEs_map, ofEs_map]
    exact List.map_congr_left fun e _ => ofE_fnd hf fs e
  have hl : loopsEs h fs ks = loopsEs g fs ks := by
    clear hm
    induction ks with
    | nil => rw [loopsEs, loopsEs]
    | cons x ks ihk => rw [loopsEs, loopsEs, ih x (by simp), ihk fun e he => ih e (by simp [he])]
  rw [loopsE, loopsE, hm, hl]
theorem soundE_fnd (hf : ∀ t, fnd h t = fnd g t) (fs : List Fa) (kn : List Bool) (e : Ex) : soundE h fs kn e = soundE g fs kn e := by
  refine Ex.ind (P := fun e => soundE h fs kn e = soundE g fs kn e) ?_ e
  intro k a b c d t ks ih
  have h1 : soundS h fs kn ks = soundS g fs kn ks := by
    induction ks with
    | nil => rw [soundS, soundS]
    | cons x ks ihk => rw [soundS, soundS, ih x (by simp), ofE_fnd hf, ihk fun e he => ih e (by simp [he])]
  have h2 : soundA h fs kn ks = soundA g fs kn ks := by
    clear h1
    induction ks with
    | nil => rw [soundA, soundA]
    | cons x ks ihk => rw [soundA, soundA, ih x (by simp), ihk fun e he => ih e (by simp [he])]
  rw [soundE, soundE, h1, h2, hf]
theorem rt_fnd (hf : ∀ t, fnd h t = fnd g t) {e : Ex} (hr : Rt g e) : Rt h e := by
  induction hr with
  | mk k a b c d t ks h1 h2 _ ih => exact .mk k a b c d t ks h1 (fun hk => by rw [hf]; exact h2 hk) ih
end
theorem looks_yes : ∀ (ks : List Ex) (n deep : Nat), (∀ e ∈ ks, ∀ n deep, n + nodes e <= 60 -> deep + depX e <= 13 -> lookN e n deep = (0, n + nodes e)) -> n + nodesAll ks <= 60 -> deep + depAll ks <= 13 -> looks ks n deep = (0, n + nodesAll ks)
  | [], n, deep, _, _, _ => by rw [looks]; simp [nodesAll]
  | e :: es, n, deep, h, h1, h2 => by
    rw [nodesAll] at h1 ⊢
    rw [depAll] at h2
    rw [looks, h e (by simp) n deep (by omega) (by omega), if_pos rfl]
    simp only
    rw [looks_yes es (n + nodes e) deep (fun x hx => h x (by simp [hx])) (by omega) (by omega), Nat.add_assoc]
theorem look_yes {g : List Rl} {e : Ex} (hr : Rt g e) : ∀ n deep, n + nodes e <= 60 -> deep + depX e <= 13 -> lookN e n deep = (0, n + nodes e) := by
  induction hr with
  | mk k a b c d t ks hf _ _ ih =>
    intro n deep h1 h2
    rw [nodes] at h1 ⊢
    rw [depX] at h2
    rw [lookN, if_neg (by omega), if_neg (by omega), if_neg (by rw [hf]; decide), looks_yes ks (n + 1) (deep + 1) ih (by omega) (by omega), Nat.add_assoc]
theorem looks_dep : ∀ (ks : List Ex) (n deep : Nat), (∀ e ∈ ks, ∀ n deep, (lookN e n deep).1 = 0 -> deep + depX e <= 13) -> (looks ks n deep).1 = 0 -> ks ≠ [] -> deep + depAll ks <= 13
  | [], _, _, _, _, h => absurd rfl h
  | e :: es, n, deep, h, h0, _ => by
    rw [looks] at h0
    split at h0
    · rename_i h1
      have h2 := h e (by simp) n deep h1
      rw [depAll]
      cases es with
      | nil => simp only [depAll]; omega
      | cons x xs =>
        have h3 := looks_dep (x :: xs) _ deep (fun y hy => h y (by simp [hy])) h0 (by simp)
        omega
    · rename_i h1; exact absurd h0 h1
theorem look_dep (e : Ex) : ∀ n deep, (lookN e n deep).1 = 0 -> deep + depX e <= 13 := by
  refine Ex.ind (P := fun e => ∀ n deep, (lookN e n deep).1 = 0 -> deep + depX e <= 13) ?_ e
  intro k a b c d t ks ih n deep h
  rw [lookN] at h
  split at h
  · simp at h
  split at h
  · simp at h
  rename_i h12
  split at h
  · simp at h
  rw [depX]
  cases ks with
  | nil => simp only [depAll]; omega
  | cons x xs =>
    have := looks_dep (x :: xs) _ _ ih h (by simp)
    omega
theorem check_less {h : List Rl} {e e' : Ex} (h0 : checkE e = 0) (hr : Rt h e') (hs : nodes e' <= nodes e) (hd : depX e' <= depX e) : checkE e' = 0 := by
  have h1 := look_dep e 0 1 h0
  have h2 := nodes_le h0
  unfold checkE
  rw [look_yes hr 0 1 (by omega) (by omega)]
theorem rt_refs {g : List Rl} {e : Ex} (hr : Rt g e) : ∀ s, ((4 : Int), s) ∈ preE e -> 0 <= fnd g s.data.toList := by
  induction hr with
  | mk k a b c d t ks _ h4 _ ih =>
    intro s hs
    rw [preE, List.mem_cons] at hs
    rcases hs with hs | hs
    · injection hs with e1 e2
      rw [e2]
      exact h4 e1.symm
    · have : ∀ l : List Ex, (∀ x ∈ l, x ∈ ks) -> ((4 : Int), s) ∈ preEs l -> 0 <= fnd g s.data.toList := by
        intro l
        induction l with
        | nil => intro _ h; rw [preEs] at h; cases h
        | cons x l ihl =>
          intro hm h
          rw [preEs, List.mem_append] at h
          rcases h with h | h
          · exact ih x (hm x (by simp)) s h
          · exact ihl (fun y hy => hm y (by simp [hy])) h
      exact this ks (fun x hx => hx) hs
theorem known1_yes {g : List Rl} : ∀ {l : List ByteArray}, (∀ s ∈ l, 0 <= fnd g s.data.toList) -> known1 g l = true
  | [], _ => by rw [known1]
  | x :: l, h => by
    rw [known1, if_neg (by have := h x (by simp); omega)]
    exact known1_yes fun s hs => h s (by simp [hs])
theorem chk2_yes {g : List Rl} : ∀ {l : List Rl}, (∀ r ∈ l, Rt g r.2) -> chk2 g l = 0
  | [], _ => by rw [chk2]
  | r :: l, h => by
    have h1 : known1 g (refsC r.2) = true := known1_yes fun s hs => by
      unfold refsC at hs
      split at hs
      · exact rt_refs (h r (by simp)) s ((mem_refsE _ _).1 hs)
      · cases hs
    rw [chk2, if_neg (by rw [h1]; decide)]
    exact chk2_yes fun r' hr' => h r' (by simp [hr'])
theorem chk1_yes {g : List Rl} : ∀ {l : List Rl} {i all : Nat}, (∀ r ∈ l, nameB r.1.data.toList = true /\ checkE r.2 = 0) -> (∀ (j : Nat) (r : Rl), l[j]? = some r -> fnd g r.1.data.toList = ((i + j : Nat) : Int)) -> chk1 g l i all = (0, all + (l.map fun r => nodes r.2).sum)
  | [], i, all, _, _ => by simp [chk1]
  | x :: l, i, all, h1, h2 => by
    have := h2 0 x rfl
    rw [chk1, if_neg (by rw [(h1 x (by simp)).1]; decide), if_neg (by rw [this]; simp), if_neg (by rw [(h1 x (by simp)).2]; decide), chk1_yes (fun r hr => h1 r (by simp [hr])) fun j r hr => by rw [h2 (j + 1) r (by simpa using hr)]; congr 1; omega]
    simp only [List.map_cons, List.sum_cons]
    rw [Nat.add_assoc]
theorem check_of {g : List Rl} (R : RightG g) : checkG g = 0 := by
  have h1 := chk1_yes (g := g) (l := g) (i := 0) (all := 0) (fun r hr => ⟨R.named r hr, R.body r hr⟩) fun j r hr => by rw [R.once j r hr, Nat.zero_add]
  unfold checkG
  have := R.pos
  have := R.ten
  have := R.nodes
  rw [if_neg (by omega), if_neg (by omega), h1, if_neg (by simp), if_neg (by simp only; omega), chk2_yes R.rt]
theorem fa_anti {x y : Fa} (h : faOrd.le x y) (h' : faOrd.le y x) : x = y := by
  obtain ⟨a, b, c⟩ := x
  obtain ⟨d, e, f⟩ := y
  obtain ⟨h1, h2, h3⟩ := h
  obtain ⟨k1, k2, k3⟩ := h'
  simp only at h1 h2 h3 k1 k2 k3
  rw [Bool.eq_iff_iff.2 ⟨h1, k1⟩, Bool.eq_iff_iff.2 ⟨h2, k2⟩, Bool.eq_iff_iff.2 ⟨h3, k3⟩]
theorem leL_anti {l m : List Fa} (h : LeL faOrd l m) (h' : LeL faOrd m l) : l = m := by
  refine List.ext_getElem? fun i => ?_
  by_cases hi : i < l.length
  · have hj : i < m.length := by rw [<- h.1]; exact hi
    rw [List.getElem?_eq_getElem hi, List.getElem?_eq_getElem hj, fa_anti (h.2 i _ _ (List.getElem?_eq_getElem hi) (List.getElem?_eq_getElem hj)) (h'.2 i _ _ (List.getElem?_eq_getElem hj) (List.getElem?_eq_getElem hi))]
  · rw [List.getElem?_eq_none (by omega), List.getElem?_eq_none (by rw [<- h.1]; omega)]
structure LikG (g h : List Rl) : Prop where
  len : h.length = g.length
  at_ : ∀ (i : Nat) (r : Rl), g[i]? = some r -> ∃ r', h[i]? = some r' /\ r'.1 = r.1 /\ Lik g (factsG g) r.2 r'.2
section
variable {g h : List Rl}
theorem LikG.back (L : LikG g h) {i : Nat} {r' : Rl} (hr : h[i]? = some r') : ∃ r, g[i]? = some r /\ r'.1 = r.1 /\ Lik g (factsG g) r.2 r'.2 := by
  have hi := getElem?_lt hr
  rw [L.len] at hi
  obtain ⟨r2, h1, h2, h3⟩ := L.at_ i _ (List.getElem?_eq_getElem hi)
  rw [hr] at h1
  injection h1 with h1
  subst h1
  exact ⟨_, List.getElem?_eq_getElem hi, h2, h3⟩
theorem LikG.names (L : LikG g h) : h.map Prod.fst = g.map Prod.fst := by
  refine List.ext_getElem? fun i => ?_
  rw [List.getElem?_map, List.getElem?_map]
  cases hg : g[i]? with
  | none =>
    have : h[i]? = none := List.getElem?_eq_none (by rw [L.len]; exact List.getElem?_eq_none_iff.1 hg)
    rw [this]
  | some r =>
    obtain ⟨r', h1, h2, _⟩ := L.at_ i r hg
    rw [h1]
    simp [h2]
theorem LikG.fnd (L : LikG g h) (t : List UInt8) : fnd h t = fnd g t := fndFrom_names L.names t 0
theorem LikG.nxF (L : LikG g h) {kn : List Fa} (hk : LeL faOrd kn (factsG g)) (i : Nat) : nxF h kn i = nxF g kn i := by
  unfold Go.Proofs.Ytkmcnekjimobhaa.nxF
  cases hg : g[i]? with
  | none =>
    have : h[i]? = none := List.getElem?_eq_none (by rw [L.len]; exact List.getElem?_eq_none_iff.1 hg)
    rw [this]
  | some r =>
    obtain ⟨r', h1, _, h3⟩ := L.at_ i r hg
    rw [h1]
    simp only
    rw [ofE_fnd L.fnd, h3.fa kn hk]
theorem LikG.facts (L : LikG g h) : factsG h = factsG g := by
  have hlen : (factsG h).length = (factsG g).length := by rw [facts_len, facts_len, L.len]
  have h1 : LeL faOrd (factsG h) (factsG g) := facts_least h (by rw [facts_len, L.len]) fun i y hy => by
    rw [L.nxF (LeL.refl _ _)]
    have hi := getElem?_lt hy
    rw [facts_len] at hi
    rw [facts_fix g i hi] at hy
    injection hy with hy
    rw [hy]
    exact faOrd.refl _
  have h2 : LeL faOrd (factsG g) (factsG h) := facts_least g (by rw [facts_len, L.len]) fun i y hy => by
    rw [<- L.nxF h1]
    have hi := getElem?_lt hy
    rw [facts_len] at hi
    rw [facts_fix h i hi] at hy
    injection hy with hy
    rw [hy]
    exact faOrd.refl _
  exact leL_anti h1 h2
theorem LikG.right (W : WellG g) (L : LikG g h) (hn : nodesG h <= nodesG g) : RightG h := by
  have R := W.right
  refine ⟨by rw [L.len]; exact R.pos, by rw [L.len]; exact R.ten, Nat.le_trans hn R.nodes, fun r' hr => ?_, fun j r' hr => ?_, fun r' hr => ?_, fun r' hr => ?_⟩
  · obtain ⟨i, hi⟩ := List.getElem?_of_mem hr
    obtain ⟨r, h1, h2, _⟩ := L.back hi
    rw [h2]; exact R.named r (List.mem_of_getElem? h1)
  · obtain ⟨r, h1, h2, _⟩ := L.back hr
    rw [L.fnd, h2]; exact R.once j r h1
  · obtain ⟨i, hi⟩ := List.getElem?_of_mem hr
    obtain ⟨r, h1, _, h3⟩ := L.back hi
    exact check_less (R.body r (List.mem_of_getElem? h1)) h3.good.rt h3.sz h3.dp
  · obtain ⟨i, hi⟩ := List.getElem?_of_mem hr
    obtain ⟨r, _, _, h3⟩ := L.back hi
    exact rt_fnd L.fnd h3.good.rt
theorem badLoop_no {fs : List Fa} : ∀ {l : List Rl} {i : Nat}, (∀ r ∈ l, loopsE h fs r.2 = false) -> badLoop h fs l i = none
  | [], _, _ => rfl
  | r :: l, i, hh => by rw [badLoop, hh r (by simp), if_neg (by decide), badLoop_no fun r' hr' => hh r' (by simp [hr'])]
theorem badLeft_no : ∀ {l : List Bool} {i : Nat}, (∀ j, j < l.length -> l[j]? = some true) -> badLeft l i = none
  | [], _, _ => rfl
  | b :: l, i, hh => by
    have h0 := hh 0 (by simp)
    simp at h0
    subst h0
    rw [badLeft, if_neg (by decide), badLeft_no fun j hj => by have := hh (j + 1) (by simpa using hj); simpa using this]
theorem well_yes (W : WellG g) : wellG g = (0, 0) := by
  unfold wellG
  rw [if_neg (by rw [check_of W.right]; decide), badLoop_no W.noloop]
  simp only
  rw [badLeft_no fun j hj => W.known j (by rw [known_len] at hj; exact hj)]
theorem LikG.well (W : WellG g) (L : LikG g h) (hn : nodesG h <= nodesG g) : WellG h := by
  refine ⟨L.right W hn, fun r' hr => ?_, fun i hi => ?_⟩
  · obtain ⟨i, hi⟩ := List.getElem?_of_mem hr
    obtain ⟨r, _, _, h3⟩ := L.back hi
    rw [L.facts, loopsE_fnd L.fnd]
    exact h3.good.noloop
  · rw [L.facts]
    have hfix : ∀ j, j < h.length -> (knownG h (factsG g))[j]? = some (nxB h (factsG g) (knownG h (factsG g)) j) := fun j hj => by
      unfold knownG
      exact grow_fix (nxB_mono h (factsG g) h.length) _ _ (by simp) (low_zeroB h (factsG g)) (by omega) j hj
    have htl : (knownG h (factsG g)).length = g.length := by rw [known_len, L.len]
    have hle : LeL boOrd (knownG g (factsG g)) (knownG h (factsG g)) := by
      generalize htop : knownG h (factsG g) = top at hfix htl
      unfold knownG
      refine grow_least (nxB_mono g (factsG g) g.length) htl (fun j y hy => ?_) _ _ (by simp) ⟨by simp [htl], fun j x y hx _ => ?_⟩
      · have hj := getElem?_lt hy
        rw [htl] at hj
        rw [hfix j (by rw [L.len]; exact hj)] at hy
        injection hy with hy
        intro hs
        rw [<- hy]
        unfold nxB at hs ⊢
        obtain ⟨r', h1, _, h3⟩ := L.at_ j _ (List.getElem?_eq_getElem hj)
        rw [List.getElem?_eq_getElem hj] at hs
        rw [h1]
        simp only at hs ⊢
        rw [soundE_fnd L.fnd]
        exact h3.so _ hs
      · rw [List.getElem?_replicate] at hx
        split at hx
        · injection hx with hx; subst hx; intro h; cases h
        · cases hx
    rw [L.len] at hi
    have h1 := W.known i hi
    obtain ⟨y, hy⟩ : ∃ y, (knownG h (factsG g))[i]? = some y := ⟨_, List.getElem?_eq_getElem (by rw [htl]; exact hi)⟩
    rw [hy, hle.2 i _ _ h1 hy rfl]
theorem LikG.ev (W : WellG g) (L : LikG g h) (s : List UInt8) : ∀ n,
    (∀ e p o, Rt g e -> p <= s.length -> ev h s n e p = some o -> Sem g s e p o) /\ (∀ es p o, (∀ e ∈ es, Rt g e) -> p <= s.length -> evS h s n es p = some o -> SemS g s es p o) /\
    (∀ es p o, (∀ e ∈ es, Rt g e) -> p <= s.length -> evA h s n es p = some o -> SemA g s es p o) /\ (∀ e p o, Rt g e -> p <= s.length -> evR h s n e p = some o -> SemR g s e p o) := by
  have H := fits_of W.right
  intro n
  induction n using Nat.strongRecOn with
  | _ n ih =>
  cases n with
  | zero => exact ⟨fun e p o _ _ h => (by cases h), fun es p o _ _ h => (by cases h), fun es p o _ _ h => (by cases h), fun e p o _ _ h => (by cases h)⟩
  | succ n =>
    obtain ⟨i1, i2, i3, i4⟩ := ih n (by omega)
    refine ⟨?_, ?_, ?_, ?_⟩
    · intro e p o hr hp hh
      cases hr with
      | mk k a b c d t ks hf hn hk =>
      rw [ev_s] at hh
      rcases fit_cases hf with ⟨rfl, hl⟩ | ⟨rfl, hl⟩ | ⟨rfl, hl, _⟩ | ⟨rfl, hl, _⟩ | ⟨rfl, _⟩ | ⟨rfl, _⟩ | ⟨h7, h11, hl⟩
      · exact ⟨1, by rw [ev_s, if_pos rfl]; exact hh⟩
      · exact ⟨1, by rw [ev_s, if_neg (by decide), if_pos rfl]; exact hh⟩
      · exact ⟨1, by rw [ev_s, if_neg (by decide), if_neg (by decide), if_pos rfl]; exact hh⟩
      · rw [if_neg (by decide), if_neg (by decide), if_neg (by decide), if_pos rfl, L.fnd] at hh
        obtain ⟨r, hr, _⟩ := fnd_at (hn rfl)
        obtain ⟨r', h1, _, h3⟩ := L.at_ _ r hr
        rw [h1] at hh
        have h4 := i1 _ _ _ h3.good.rt hp hh
        obtain ⟨m, o', h5⟩ := ends (s := s) W hp (W.good (List.mem_of_getElem? hr))
        have h6 := h3.sem s p o' hp ⟨m, h5⟩
        have := h4.eq h6
        subst this
        exact ⟨m + 1, by rw [ev_s, if_neg (by decide), if_neg (by decide), if_neg (by decide), if_pos rfl, hr]; exact h5⟩
      · rw [if_neg (by decide), if_neg (by decide), if_neg (by decide), if_neg (by decide), if_pos rfl] at hh
        exact sem5.2 (i2 _ _ _ hk hp hh)
      · rw [if_neg (by decide), if_neg (by decide), if_neg (by decide), if_neg (by decide), if_neg (by decide), if_pos rfl] at hh
        exact sem6.2 (i3 _ _ _ hk hp hh)
      · rw [if_neg (by omega), if_neg (by omega), if_neg (by omega), if_neg (by omega), if_neg (by omega), if_neg (by omega)] at hh
        obtain ⟨x, rfl⟩ := one_of hl
        have hx := hk x (by simp)
        have h' : evK h s n k x p = some o := hh
        cases n with
        | zero => cases h'
        | succ n =>
          obtain ⟨j1, j2, j3, j4⟩ := ih n (by omega)
          rw [evK_s] at h'
          by_cases h7' : k = 7
          · subst h7'
            rw [if_pos rfl] at h'
            exact sem7.2 (j4 _ _ _ hx hp h')
          rw [if_neg h7'] at h'
          cases he : Go.Proofs.Ytkmcnekjimobhaa.ev h s n x p with
          | none => rw [he] at h'; cases h'
          | some u =>
            have hs := j1 _ _ _ hx hp he
            rw [he] at h'
            by_cases h8 : k = 8
            · subst h8
              rw [sem8]
              cases u with
              | none => simp at h'; exact .inl ⟨hs, h'.symm⟩
              | some q => simp only [if_pos] at h'; exact .inr ⟨q, hs, j4 _ _ _ hx (sem_le H hx hp hs).2 h'⟩
            · rw [sem9 (by omega) h11]
              refine ⟨u, hs, ?_⟩
              cases u with
              | none =>
                simp only at h'
                injection h' with h'
                rw [<- h', lookK]
                by_cases h10 : k = 10
                · rw [if_pos (.inr h10), if_pos h10]
                · rw [if_neg (by omega), if_neg h10]
              | some q =>
                simp only [lookK] at h' ⊢
                rw [if_neg h8] at h'
                by_cases h9 : k = 9
                · rw [if_pos h9] at h' ⊢; injection h' with h'; exact h'.symm
                rw [if_neg h9] at h' ⊢
                by_cases h10 : k = 10
                · rw [if_pos h10] at h' ⊢; injection h' with h'; exact h'.symm
                · rw [if_neg h10] at h' ⊢; injection h' with h'; exact h'.symm
    · intro es p o hr hp hh
      cases es with
      | nil => rw [evS_nil] at hh; injection hh with hh; exact semS_nil.2 hh.symm
      | cons e es =>
        rw [evS_cons] at hh
        cases he : Go.Proofs.Ytkmcnekjimobhaa.ev h s n e p with
        | none => rw [he] at hh; cases hh
        | some u =>
          have hs := i1 _ _ _ (hr e (by simp)) hp he
          rw [he] at hh
          cases u with
          | none => injection hh with hh; exact semS_cons.2 (.inr ⟨hs, hh.symm⟩)
          | some q => exact semS_cons.2 (.inl ⟨q, hs, i2 _ _ _ (fun x hx => hr x (by simp [hx])) (sem_le H (hr e (by simp)) hp hs).2 hh⟩)
    · intro es p o hr hp hh
      cases es with
      | nil => rw [evA_nil] at hh; injection hh with hh; exact semA_nil.2 hh.symm
      | cons e es =>
        rw [evA_cons] at hh
        cases he : Go.Proofs.Ytkmcnekjimobhaa.ev h s n e p with
        | none => rw [he] at hh; cases hh
        | some u =>
          have hs := i1 _ _ _ (hr e (by simp)) hp he
          rw [he] at hh
          cases u with
          | none => exact semA_cons.2 (.inl ⟨hs, i3 _ _ _ (fun x hx => hr x (by simp [hx])) hp hh⟩)
          | some q => injection hh with hh; exact semA_cons.2 (.inr ⟨q, hs, hh.symm⟩)
    · intro e p o hr hp hh
      rw [evR_s] at hh
      cases he : Go.Proofs.Ytkmcnekjimobhaa.ev h s n e p with
      | none => rw [he] at hh; cases hh
      | some u =>
        have hs := i1 _ _ _ hr hp he
        rw [he] at hh
        cases u with
        | none => injection hh with hh; exact semR_iff.2 (.inl ⟨hs, hh.symm⟩)
        | some q => exact semR_iff.2 (.inr ⟨q, hs, i4 _ _ _ hr (sem_le H hr hp hs).2 hh⟩)
end
structure SimEq (g h : List Rl) : Prop where
  well : WellG h
  len : h.length = g.length
  facts : factsG h = factsG g
  nodes : nodesG h <= nodesG g
  at_ : ∀ (i : Nat) (r : Rl), g[i]? = some r -> ∃ r', h[i]? = some r' /\ r'.1 = r.1 /\ ∀ (s : List UInt8) p o, p <= s.length -> Sem h s r'.2 p o -> Sem g s r.2 p o
theorem SimEq.refl {g : List Rl} (W : WellG g) : SimEq g g := ⟨W, rfl, rfl, Nat.le_refl _, fun _ r hr => ⟨r, hr, rfl, fun _ _ _ _ h => h⟩⟩
theorem SimEq.trans {g h k : List Rl} (a : SimEq g h) (b : SimEq h k) : SimEq g k :=
  ⟨b.well, b.len.trans a.len, b.facts.trans a.facts, Nat.le_trans b.nodes a.nodes, fun i r hr => by
    obtain ⟨r', h1, h2, h3⟩ := a.at_ i r hr
    obtain ⟨r2, h4, h5, h6⟩ := b.at_ i r' h1
    exact ⟨r2, h4, h5.trans h2, fun s p o hp hs => h3 s p o hp (h6 s p o hp hs)⟩⟩
theorem LikG.sim {g h : List Rl} (W : WellG g) (L : LikG g h) (hn : nodesG h <= nodesG g) : SimEq g h :=
  ⟨L.well W hn, L.len, L.facts, hn, fun i r hr => by
    obtain ⟨r', h1, h2, h3⟩ := L.at_ i r hr
    refine ⟨r', h1, h2, fun s p o hp ⟨n, hs⟩ => ?_⟩
    have h4 := (L.ev W s n).1 _ _ _ h3.good.rt hp hs
    obtain ⟨m, o', h5⟩ := ends (s := s) W hp (W.good (List.mem_of_getElem? hr))
    have h6 := h4.eq (h3.sem s p o' hp ⟨m, h5⟩)
    rw [h6]
    exact ⟨m, h5⟩⟩
theorem simG_lik {g : List Rl} (W : WellG g) : LikG g (simG g).1 := by
  unfold simG
  refine ⟨by simp, fun i r hr => ⟨(r.1, (simE g (factsG g) r.2).1), by rw [List.getElem?_map, hr]; rfl, rfl, sim_lik (fits_of W.right) r.2 (W.good (List.mem_of_getElem? hr))⟩⟩
theorem simG_eq {g : List Rl} (W : WellG g) : SimEq g (simG g).1 := (simG_lik W).sim W (simG_sz g).1
theorem simN_end : ∀ (n : Nat) {g : List Rl}, WellG g -> nodesG g < n -> SimEq g (simN n g) /\ (simG (simN n g)).2 = false
  | 0, g, _, h => by omega
  | n + 1, g, W, h => by
    have h1 := simG_eq W
    have h2 := (simG_sz g).2
    unfold simN
    by_cases hm : (simG g).2 = true
    · rw [if_pos hm]
      obtain ⟨i1, i2⟩ := simN_end n h1.well (by have := h2 hm; omega)
      exact ⟨h1.trans i1, i2⟩
    · rw [if_neg hm]
      refine ⟨h1, ?_⟩
      rw [simG_same W.right.rt (by simpa using hm)]
      simpa using hm
theorem simp_end {g : List Rl} (W : WellG g) : SimEq g (simpG g) /\ (simG (simpG g)).2 = false := simN_end _ W (by omega)
theorem wf_ofN {k : Int} (h : 0 <= k /\ k <= 100) {ks : List Ex} (hk : ∀ e ∈ ks, WfE e) : WfE (ofN k ks) := .mk _ _ _ _ _ _ _ (by unfold I64; omega) (by unfold U64; omega) (by unfold U64; omega) (by unfold U64; omega) (by unfold U64; omega) hk
theorem WfE.kid {e : Ex} (h : WfE e) : ∀ x ∈ e.ks, WfE x := by cases h with | mk _ _ _ _ _ _ _ _ _ _ _ _ hk => exact hk
theorem wf_list {g : List Rl} {fs : List Fa} {k : Int} : ∀ xs l : List Ex, (∀ e ∈ l, WfE e) -> (∀ e ∈ xs, WfE e) -> ∀ e ∈ (listS g fs k xs l).1, WfE e
  | [], l, hl, _ => by simpa [listS] using hl
  | x :: xs, l, hl, hx => by
    have hxs : ∀ e ∈ xs, WfE e := fun e he => hx e (by simp [he])
    have hm : ∀ e ∈ l ++ (if flatB k x l xs = true then x.ks else [x]), WfE e := fun e he => by
      rcases List.mem_append.1 he with he | he
      · exact hl e he
      · split at he
        · exact (hx x (by simp)).kid e he
        · simp only [List.mem_singleton] at he; rw [he]; exact hx x (by simp)
    unfold listS
    split
    · exact wf_list xs l hl hxs
    split
    · exact hm
    · exact wf_list xs _ hm hxs
theorem wf_sim {g : List Rl} {fs : List Fa} (e : Ex) : WfE e -> WfE (simE g fs e).1 := by
  refine Ex.ind (P := fun e => WfE e -> WfE (simE g fs e).1) ?_ e
  intro k a b c d t ks ih hw
  cases hw with
  | mk _ _ _ _ _ _ _ hk ha hb hc hd hks =>
  have h1 : ∀ e ∈ (simEs g fs ks).1, WfE e := fun e he => by
    rw [simEs_map] at he
    obtain ⟨x, hx, rfl⟩ := List.mem_map.1 he
    exact ih x hx (hks x hx)
  unfold simE
  generalize (simEs g fs ks).1 = l at h1
  split
  · have h2 := wf_list (g := g) (fs := fs) (k := k) l [] (fun e he => by cases he) h1
    generalize listS g fs k l [] = r at h2
    match r, h2 with
    | ([], m), _ => exact wf_ofN (by omega) fun e he => by cases he
    | ([y], m), h2 => exact h2 y (by simp)
    | (y :: z :: l, m), h2 => exact .mk _ _ _ _ _ _ _ hk ha hb hc hd h2
  split
  · match l, h1 with
    | [], h1 => exact .mk _ _ _ _ _ _ _ hk ha hb hc hd h1
    | .mk k2 a2 b2 c2 d2 t2 l2 :: xs, h1 =>
      have hx := h1 _ (List.mem_cons_self)
      rw [single_two]
      split
      · exact wf_ofN (by omega) hx.kid
      split
      · exact wf_ofN (by omega) hx.kid
      split
      · exact hx
      split
      · exact wf_ofN (by omega) hx.kid
      · exact .mk _ _ _ _ _ _ _ hk ha hb hc hd h1
  · exact .mk _ _ _ _ _ _ _ hk ha hb hc hd h1
theorem wf_simG {g : List Rl} (h : ∀ r ∈ g, WfE r.2) : ∀ r ∈ (simG g).1, WfE r.2 := fun r hr => by
  unfold simG at hr
  obtain ⟨r0, h0, rfl⟩ := List.mem_map.1 hr
  exact wf_sim r0.2 (h r0 h0)
theorem wf_simN : ∀ (n : Nat) {g : List Rl}, (∀ r ∈ g, WfE r.2) -> ∀ r ∈ simN n g, WfE r.2
  | 0, _, h => h
  | n + 1, g, h => by
    unfold simN
    split
    · exact wf_simN n (wf_simG h)
    · exact wf_simG h
theorem look_simR {g : List Rl} (W : WellG g) (s : ByteArray) : lookG (simpG g) s = lookG g s := by
  obtain ⟨E, -⟩ := simp_end W
  unfold lookG
  rw [well_yes W, well_yes E.well]
theorem out_simR {g : List Rl} (W : WellG g) (s : ByteArray) : outG (simpG g) s = outG g s := by
  obtain ⟨E, -⟩ := simp_end W
  obtain ⟨r, hr⟩ : ∃ r, g[0]? = some r := ⟨_, List.getElem?_eq_getElem W.right.pos⟩
  obtain ⟨r', h1, -, h3⟩ := E.at_ 0 r hr
  obtain ⟨n, o, he⟩ := ends (s := s.data.toList) E.well (p := 0) (by omega) (E.well.good (List.mem_of_getElem? h1))
  rw [outG_is h1 ⟨n, he⟩, outG_is hr (h3 _ 0 o (by omega) ⟨n, he⟩)]
theorem out_kerR {g : List Rl} (W : WellG g) (s : ByteArray) : outG (kerG g) s = outG g s := by
  obtain ⟨r, hr⟩ : ∃ r, g[0]? = some r := ⟨_, List.getElem?_eq_getElem W.right.pos⟩
  obtain ⟨n, o, he⟩ := ends (s := s.data.toList) W (p := 0) (by omega) (W.good (List.mem_of_getElem? hr))
  have h1 : (kerG g)[0]? = some (r.1, kerE r.2) := by rw [ker_at, hr]; rfl
  rw [outG_is hr ⟨n, he⟩, outG_is h1 (sem_ker W.right.rt (W.right.rt r (List.mem_of_getElem? hr)) ⟨n, he⟩)]
theorem out_cost {g : List Rl} {s : ByteArray} {C : Nat} {o : Option Nat} (h : Costs g s C o) (hl0 : lookG g s = 0) : o = outG g s := by
  obtain ⟨n, r, hr, he, _⟩ := h hl0
  exact (outG_is hr ⟨n, he⟩).symm
theorem run1_any {g : List Rl} {A : Option Addr} {cp : Nat} {row : Nat -> List Value} {w : World} (h : GrIs w w.heap.size g A cp row) (hwf : ∀ r ∈ g, WfE r.2) (s : ByteArray) (hl0 : lookG g s = 0) :
    Calls Try.prog 15 #[.agg #[.slice A g.length cp], .string s] w fun e w' => ∃ (V : Option Addr) (n c : Nat), e = .returned (.tuple #[.agg #[.bool (outG g s).isSome, .int .i64 ((outG g s).getD 0 : Nat)], .slice V n c, .int .i64 0]) /\ Below w.heap.size w w' :=
  (run_any h hwf s).mono fun e w' hq => by
    obtain ⟨hb, ⟨hne, _⟩ | ⟨_, o, σ, V, c, l, ⟨m, hpk⟩, _, _, _, rfl, _⟩⟩ := hq
    · exact absurd hl0 hne
    · exact ⟨V, _, c, by rw [(run_out hl0 hpk).1, outV_eq], hb⟩
theorem code1_any {g : List Rl} (hwf : ∀ r ∈ g, WfE r.2) {s : ByteArray} {C : Nat} {o : Option Nat} (hC : Costs g s C o) (hl0 : lookG g s = 0) (h20 : C <= 1048575) (hmz : makR g = 0) (V : Option Addr) (c B : Nat) (W : World) (ho : W.ownsRow B 62 6 (.slice V (codeG g).length c) (codeG g).length (inCells (codeG g))) :
    Calls Try.prog 26 #[.slice V (codeG g).length c, .string s, .int .i64 (16 * (C : Int) + 16)] W fun e w' => e = .returned (.tuple #[.agg #[.bool (outG g s).isSome, .int .i64 ((outG g s).getD 0 : Nat)], .int .i64 0]) /\ Below W.heap.size W w' := by
  obtain ⟨Wg, h60⟩ := look_zero hl0
  obtain ⟨_, _, hlr⟩ := makR_zero hmz
  have hln : (codeG g).length <= 6000 := by rw [codeG_len]; exact hlr
  have hsl : s.data.toList.length = s.size := size_list s
  obtain ⟨n, r, hr, hev, hcost⟩ := hC hl0
  have hsay := code_says hmz (s := s.data.toList) (by omega) hr hev hcost h20
  have hrun := crun_any V (codeG g).length c (codeG g) W.heap.size W (Reads.of_own ho) (Nat.le_refl _) (by unfold maxLen; omega) (codeG_words hwf) s (16 * (C : Int) + 16) (by unfold I64; omega) (by unfold I64; omega)
  rw [hsay, outCR_N, outV_eq, out_cost hC hl0] at hrun
  exact hrun
end Go.Proofs.Ytkmcnekjimobhaa
namespace Go.Proofs.Ytkmcnekjimobhaa
set_option maxRecDepth 100000
open Go.RowKit Go.Maps
def xG1 : List Rl := [(nameA, litE ⟨#[120]⟩)]
theorem x1_look : lookG xG1 ⟨#[120]⟩ = 0 := by decide +kernel
theorem x1_ev : ev xG1 [120] 3 (litE ⟨#[120]⟩) 0 = some (some 1) := by decide +kernel
theorem x1_acc : accG xG1 ⟨#[120]⟩ = true := by
  unfold accG
  rw [x1_look, outG_is (r := (nameA, litE ⟨#[120]⟩)) rfl ⟨3, x1_ev⟩]
  rfl
theorem wf_litT (t : ByteArray) : WfE (litE t) := .mk _ _ _ _ _ _ _ (by unfold I64; omega) (by unfold U64; omega) (by unfold U64; omega) (by unfold U64; omega) (by unfold U64; omega) (fun e he => by cases he)
theorem topx1_any (w : World) : Calls Try.prog 49 #[] w fun e' w' => ∃ b, e' = .returned (.agg #[.slice (some ⟨b, 0, none⟩) 1 1]) /\ GrIs w' w'.heap.size xG1 (some ⟨b, 0, none⟩) 1 (fun _ => exCells 3 0 0 0 0 ⟨#[120]⟩ none 0 0) /\ Below w.heap.size w w' := by
  go_enter Try.func49, Try.ntmps49
  go_wp2
  refine bodyPost_ret (v := .agg #[.slice (some ⟨w.heap.size + 1, 0, none⟩) 1 1]) (by simp [results, Try.results49, go_sem]) rfl ⟨w.heap.size + 1, rfl, gr_one (cs := #[.string nameA, .int .i64 3, .int .u64 0, .int .u64 0, .int .u64 0, .int .u64 0, .string ⟨#[120]⟩, .slice none 0 0]) (by decide) (litE_is _ ⟨#[120]⟩ (by decide)) (blk_at (by simp)) rfl, bl⟩
theorem begun1_any (w : World) : Calls Try.prog 17 #[] w fun e w' => e = .returned (.bool true) /\ Below w.heap.size w w' := by
  have hx := fun W => topx1_any W
  have HX := Lib.hid hx
  clear hx
  go_enter Try.func17, Try.ntmps17
  go_wp2_with fail
  refine (HX.out _).mono ?_
  rintro e w1 ⟨b, rfl, hG, hb1⟩
  have hac := acc_any hG (fun r hr => by unfold xG1 at hr; rw [List.mem_singleton] at hr; subst hr; exact wf_litT _) ⟨#[120]⟩
  rw [x1_acc, x1_look] at hac
  have HA := Lib.hid hac
  clear hac hG
  go_wp2_with fail
  refine HA.out.mono ?_
  rintro e w2 ⟨rfl, hb2⟩
  have hw2 := hb1.trans (hb2.mono hb1.size)
  go_wp2
  go_ret
  exact ⟨rfl, hw2⟩
end Go.Proofs.Ytkmcnekjimobhaa
