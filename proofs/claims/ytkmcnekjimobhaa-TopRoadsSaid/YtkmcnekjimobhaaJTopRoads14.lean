/- How high the machine's stack may grow: plain. What code.Make writes of a grammar: plain. Rules in rows of one's own: cells, slices.Clone. Expressions that are made anew: what of memory they rest on; kids in a row while they are appended. -/
import Derived.Test.YtkmcnekjimobhaaJTopRoads11
import Derived.Test.YtkmcnekjimobhaaJTopRoads13
import Derived.Test.YtkmcnekjimobhaaJTopRoads3
import Derived.WalkSpells
import Derived.Maps.AppendAt
import Derived.Lib.SmallJoins
import Derived.Test.YtkmcnekjimobhaaJTopRoads1
namespace Go.Proofs.Ytkmcnekjimobhaa
set_option maxRecDepth 100000
theorem nodup_lt' : ∀ (n : Nat) (l : List Nat), l.Nodup -> (∀ x ∈ l, x < n) -> l.length <= n := by
  intro n
  induction n with
  | zero =>
    intro l _ h
    cases l with
    | nil => simp
    | cons x l => exact absurd (h x (by simp)) (by omega)
  | succ n ih =>
    intro l hn h
    by_cases hm : n ∈ l
    · have h1 := ih (l.erase n) (hn.erase n) (fun x hx => by
        have h2 := (hn.mem_erase_iff).1 hx
        have h3 := h x h2.2
        have h4 := h2.1
        omega)
      rw [List.length_erase_of_mem hm] at h1
      omega
    · have := ih l hn (fun x hx => by
        have h3 := h x hx
        have : x ≠ n := fun e => hm (e ▸ hx)
        omega)
      omega
section
variable {g : List Rl} {s : List UInt8} {fs : List Fa}
theorem dep_rep (H : Fits g fs) {e : Ex} (hr : Rt g e) {X p : Nat} (h : ∀ n q, p <= q -> q <= s.length -> dep g s n (.ex e) q <= X) : ∀ n q, p <= q -> q <= s.length -> dep g s n (.rep e) q <= X
  | 0, q, _, _ => by rw [dep.eq_def]; exact Nat.zero_le _
  | n + 1, q, h1, h2 => by
    rw [dep.eq_def]
    dsimp only
    have h3 := h n q h1 h2
    cases he : evJ g s n (.ex e) q with
    | none => exact h3
    | some u => cases u with
      | none => exact h3
      | some tq =>
        have ht := (told H n).1 e q _ hr h2 he
        exact Nat.max_le.2 ⟨h3, dep_rep H hr h n tq (by have := ht.1; omega) ht.2.1⟩
theorem dep_step (H : Fits g fs) {p D K : Nat} (hp : p <= s.length) (hDK : D <= K) (hout : ∀ q, p < q -> q <= s.length -> ∀ e, GoodE g fs e -> hE e <= 12 -> ∀ n, dep g s n (.ex e) q <= D)
    {kn : List Bool} (hkn : ∀ (i : Nat) (r : Rl), kn[i]? = some true -> g[i]? = some r -> ∀ n, dep g s n (.ex r.2) p <= K) (e : Ex) : GoodE g fs e -> hE e <= 12 -> soundE g fs kn e = true -> ∀ n, dep g s n (.ex e) p <= K + hE e := by
  refine Ex.ind (P := fun e => GoodE g fs e -> hE e <= 12 -> soundE g fs kn e = true -> ∀ n, dep g s n (.ex e) p <= K + hE e) ?_ e
  intro k a b c d t ks ih hg h12 hs n
  obtain ⟨hkids, hfit, hname, hloop⟩ := hg.kids
  have hfc := fit_cases hfit
  rw [hE] at h12 ⊢
  have hk12 : ∀ e ∈ ks, hE e <= 12 := fun e he => by have := hS_mem he; omega
  rw [soundE] at hs
  cases n with
  | zero => rw [dep.eq_def]; exact Nat.zero_le _
  | succ n =>
  rw [dep.eq_def]
  dsimp only
  by_cases k1 : k = 1 \/ k = 2 \/ k = 3
  · rw [if_pos k1]; exact Nat.zero_le _
  rw [if_neg k1]
  by_cases k4 : k = 4
  · rw [if_pos k4] at hs ⊢
    obtain ⟨r, hr, _⟩ := fnd_at (hname k4)
    have hkt : kn[(fnd g t.data.toList).toNat]? = some true := by
      rw [List.getD_eq_getElem?_getD] at hs
      cases hh : kn[(fnd g t.data.toList).toNat]? with
      | none => rw [hh] at hs; cases hs
      | some b => rw [hh] at hs; simp at hs; rw [hs]
    rw [hr]
    dsimp only
    have := hkn _ r hkt hr n
    omega
  rw [if_neg k4] at hs ⊢
  by_cases k5 : k = 5
  · rw [if_pos k5] at hs ⊢
    have hfar : ∀ (es : List Ex) (n q : Nat), (∀ e ∈ es, e ∈ ks) -> p < q -> q <= s.length -> dep g s n (.seq es) q <= D := by
      intro es
      induction es with
      | nil => intro n q _ _ _; cases n <;> (rw [dep.eq_def]; exact Nat.zero_le _)
      | cons e es ihe =>
        intro n q hm h1 h2
        cases n with
        | zero => rw [dep.eq_def]; exact Nat.zero_le _
        | succ n =>
          rw [dep.eq_def]
          dsimp only
          have h3 := hout q h1 h2 e (hkids e (hm e (by simp))) (hk12 e (hm e (by simp))) n
          cases he : evJ g s n (.ex e) q with
          | none => exact h3
          | some u => cases u with
            | none => exact h3
            | some tq =>
              have ht := (told H n).1 e q _ (hkids e (hm e (by simp))).rt h2 he
              exact Nat.max_le.2 ⟨h3, ihe n tq (fun x hx => hm x (by simp [hx])) (by have := ht.1; omega) ht.2.1⟩
    have : ∀ (es : List Ex) (n : Nat), (∀ e ∈ es, e ∈ ks) -> soundS g fs kn es = true -> dep g s n (.seq es) p <= K + hS ks := by
      intro es
      induction es with
      | nil => intro n _ _; cases n <;> (rw [dep.eq_def]; exact Nat.zero_le _)
      | cons e es ihe =>
        intro n hm hse
        rw [soundS] at hse
        split at hse
        · cases hse
        rename_i hse1
        cases n with
        | zero => rw [dep.eq_def]; exact Nat.zero_le _
        | succ n =>
          rw [dep.eq_def]
          dsimp only
          have hme := hm e (by simp)
          have h3 := ih e hme (hkids e hme) (hk12 e hme) (by simpa using hse1) n
          have h4 := hS_mem hme
          cases he : evJ g s n (.ex e) p with
          | none => exact Nat.le_trans h3 (by omega)
          | some u => cases u with
            | none => exact Nat.le_trans h3 (by omega)
            | some tq =>
              have ht := (told H n).1 e p _ (hkids e hme).rt hp he
              refine Nat.max_le.2 ⟨Nat.le_trans h3 (by omega), ?_⟩
              by_cases hpt : tq = p
              · subst hpt
                have he' := ht.2.2.1 rfl
                rw [he', if_neg (by decide)] at hse
                exact ihe n (fun x hx => hm x (by simp [hx])) hse
              · exact Nat.le_trans (hfar es n tq (fun x hx => hm x (by simp [hx])) (by have := ht.1; omega) ht.2.1) (by omega)
    exact Nat.le_trans (this ks n (fun e he => he) hs) (by omega)
  rw [if_neg k5] at hs ⊢
  have hall : ∀ es : List Ex, soundA g fs kn es = true -> ∀ e ∈ es, soundE g fs kn e = true := by
    intro es
    induction es with
    | nil => intro _ e he; cases he
    | cons e es ihe =>
      intro hse e' he'
      rw [soundA] at hse
      split at hse
      · cases hse
      rename_i hse1
      rcases List.mem_cons.1 he' with rfl | he'
      · simpa using hse1
      · exact ihe hse e' he'
  have hks : ∀ e ∈ ks, ∀ n, dep g s n (.ex e) p <= K + hE e := fun e he => ih e he (hkids e he) (hk12 e he) (hall ks hs e he)
  by_cases k6 : k = 6
  · rw [if_pos k6]
    have : ∀ (es : List Ex) (n : Nat), (∀ e ∈ es, e ∈ ks) -> dep g s n (.alt es) p <= 1 + (K + hS ks) := by
      intro es
      induction es with
      | nil => intro n _; cases n <;> (rw [dep.eq_def]; exact Nat.zero_le _)
      | cons e es ihe =>
        intro n hm
        cases n with
        | zero => rw [dep.eq_def]; exact Nat.zero_le _
        | succ n =>
          rw [dep.eq_def]
          dsimp only
          have hme := hm e (by simp)
          have h3 := hks e hme n
          have h4 := hS_mem hme
          cases he : evJ g s n (.ex e) p with
          | none => dsimp only; omega
          | some u => cases u with
            | some tq => dsimp only; omega
            | none => exact Nat.max_le.2 ⟨by omega, ihe n fun x hx => hm x (by simp [hx])⟩
    have := this ks n fun e he => he
    omega
  rw [if_neg k6]
  match ks, show ks.length = 1 by omega with
  | [e0], _ =>
    dsimp only
    have h0 := hks e0 (by simp)
    have hS0 : hS [e0] = hE e0 := by rw [hS, hS]; omega
    rw [hS0] at h12 ⊢
    have hg0 := hkids e0 (by simp)
    have hall' : ∀ n q, p <= q -> q <= s.length -> dep g s n (.ex e0) q <= K + hE e0 := by
      intro n q h1 h2
      by_cases hpq : p = q
      · subst hpq; exact h0 n
      · exact Nat.le_trans (hout q (by omega) h2 e0 hg0 (by omega) n) (by omega)
    have hrep := dep_rep (s := s) H hg0.rt hall'
    cases n with
    | zero => rw [dep.eq_def]; exact Nat.zero_le _
    | succ n =>
    rw [dep.eq_def]
    dsimp only
    by_cases k7 : k = 7
    · rw [if_pos k7]
      have := hrep n p (Nat.le_refl _) hp
      omega
    rw [if_neg k7]
    have h3 := h0 n
    cases he : evJ g s n (.ex e0) p with
    | none => dsimp only; omega
    | some u => cases u with
      | none => dsimp only; omega
      | some tq =>
        have ht := (told H n).1 e0 p _ hg0.rt hp he
        dsimp only
        split
        · have := hrep n tq ht.1 ht.2.1
          exact Nat.max_le.2 ⟨by omega, by omega⟩
        · omega
theorem dep_all (W : WellG g) : ∀ (m p : Nat), s.length - p = m -> p <= s.length -> ∀ e, GoodE g (factsG g) e -> hE e <= 12 -> ∀ n, dep g s n (.ex e) p <= 132 * (m + 1) := by
  intro m
  induction m using Nat.strongRecOn with
  | _ m ih =>
    intro p hm hp
    have H := fits_of W.right
    have hout : ∀ q, p < q -> q <= s.length -> ∀ e, GoodE g (factsG g) e -> hE e <= 12 -> ∀ n, dep g s n (.ex e) q <= 132 * m := fun q h1 h2 e he h12 n => Nat.le_trans (ih (s.length - q) (by omega) q rfl h2 e he h12 n) (by omega)
    have hrules : ∃ S : List Nat, S.Nodup /\ (∀ i ∈ S, i < g.length) /\ (∀ i ∈ S, ∀ r, g[i]? = some r -> ∀ n, dep g s n (.ex r.2) p <= 132 * m + 12 * S.length) /\ ∀ i, (knownG g (factsG g))[i]? = some true -> i ∈ S := by
      refine (grow_keeps (nx := nxB g (factsG g)) (P := fun kn => kn.length = g.length /\ ∃ S : List Nat, S.Nodup /\ (∀ i ∈ S, i < g.length) /\ (∀ i ∈ S, ∀ r, g[i]? = some r -> ∀ n, dep g s n (.ex r.2) p <= 132 * m + 12 * S.length) /\ ∀ i, kn[i]? = some true -> i ∈ S) (fun kn i h hi _ => ⟨by simp; exact h.1, ?_⟩) _ _ ⟨by simp, [], List.nodup_nil, by simp, by simp, fun i hi => ?_⟩).1.2
      · obtain ⟨hl, S, h1, h2, h3, h4⟩ := h
        cases hnx : nxB g (factsG g) kn i with
        | false =>
          refine ⟨S, h1, h2, h3, fun j hj => ?_⟩
          by_cases hij : i = j
          · subst hij
            rw [List.getElem?_set_self hi] at hj
            injection hj with hj
            cases hj
          · rw [List.getElem?_set_ne hij] at hj
            exact h4 j hj
        | true =>
          have hnew : ∀ j, (kn.set i true)[j]? = some true -> j = i \/ j ∈ S := by
            intro j hj
            by_cases hij : i = j
            · exact .inl hij.symm
            · rw [List.getElem?_set_ne hij] at hj
              exact .inr (h4 j hj)
          by_cases hmem : i ∈ S
          · exact ⟨S, h1, h2, h3, fun j hj => (hnew j hj).elim (fun e => e ▸ hmem) id⟩
          · refine ⟨i :: S, List.nodup_cons.2 ⟨hmem, h1⟩, fun j hj => ?_, fun j hj r hr n => ?_, fun j hj => List.mem_cons.2 (hnew j hj)⟩
            · rcases List.mem_cons.1 hj with rfl | hj
              · rw [<- hl]; exact hi
              · exact h2 j hj
            · rcases List.mem_cons.1 hj with rfl | hj
              · have hmr := List.mem_of_getElem? hr
                unfold nxB at hnx
                rw [hr] at hnx
                have h12 := check_deep (W.right.body r hmr)
                have := dep_step (K := 132 * m + 12 * S.length) H hp (by omega) hout (fun i r hi hr n => h3 i (h4 i hi) r hr n) r.2 ⟨W.right.rt r hmr, W.noloop r hmr⟩ h12 hnx n
                rw [List.length_cons]
                omega
              · have := h3 j hj r hr n
                rw [List.length_cons]
                omega
      · rw [List.getElem?_replicate] at hi
        split at hi
        · injection hi with hi; cases hi
        · cases hi
    obtain ⟨S, h1, h2, h3, h4⟩ := hrules
    have hS := nodup_lt' _ _ h1 h2
    have h10 := W.right.ten
    intro e he h12 n
    have := dep_step (K := 132 * m + 12 * S.length) H hp (by omega) hout (fun i r hi hr n => h3 i (h4 i hi) r hr n) e he h12 (sound_true W.known e he.rt) n
    omega
theorem dep_top (W : WellG g) (h60 : s.length <= 60) {r : Rl} (hr : r ∈ g) (n : Nat) : dep g s n (.ex r.2) 0 <= 8052 := by
  have := dep_all (s := s) W s.length 0 (by omega) (by omega) r.2 ⟨W.right.rt r hr, W.noloop r hr⟩ (check_deep (W.right.body r hr)) n
  omega
end
def cR (g : List Rl) (ad : Nat -> Nat) : List Rl -> Nat -> List In
  | [], _ => []
  | r :: rs, p => cE g ad r.2 p ++ (iN 6 0 :: cR g ad rs (p + lE r.2 + 1))
def aR : List Rl -> Nat -> List Nat
  | [], _ => []
  | r :: rs, p => p :: aR rs (p + lE r.2 + 1)
def lR : List Rl -> Nat
  | [] => 0
  | r :: rs => lE r.2 + 1 + lR rs
def adG (g : List Rl) (i : Nat) : Nat := (aR g 2).getD i 0
def codeG (g : List Rl) : List In := iN 5 ((adG g 0 : Nat) : Int) :: iN 8 0 :: cR g (adG g) g 2
theorem cR_len {g : List Rl} {ad : Nat -> Nat} : ∀ (rs : List Rl) (p : Nat), (cR g ad rs p).length = lR rs
  | [], _ => rfl
  | r :: rs, p => by
    rw [cR, lR, List.length_append, List.length_cons, cE_len, cR_len rs]
    omega
theorem aR_len : ∀ (rs : List Rl) (p : Nat), (aR rs p).length = rs.length
  | [], _ => rfl
  | r :: rs, p => by rw [aR, List.length_cons, List.length_cons, aR_len rs]
theorem codeG_len (g : List Rl) : (codeG g).length = lR g + 2 := by
  unfold codeG
  rw [List.length_cons, List.length_cons, cR_len]
theorem cR_placed {g : List Rl} {ad : Nat -> Nat} : ∀ (rs : List Rl) (p : Nat) (l : List In), Seg l p (cR g ad rs p) -> ∀ (i : Nat) (r : Rl), rs[i]? = some r -> ∃ q, (aR rs p)[i]? = some q /\ Seg l q (cE g ad r.2 q ++ [iN 6 0])
  | [], p, l, _, i, r, hr => by simp at hr
  | x :: xs, p, l, h, 0, r, hr => by
    simp at hr
    subst hr
    refine ⟨p, rfl, ?_⟩
    rw [cR] at h
    rw [show cE g ad x.2 p ++ (iN 6 0 :: cR g ad xs (p + lE x.2 + 1)) = (cE g ad x.2 p ++ [iN 6 0]) ++ cR g ad xs (p + lE x.2 + 1) by simp] at h
    exact h.app.1
  | x :: xs, p, l, h, i + 1, r, hr => by
    rw [cR] at h
    rw [show cE g ad x.2 p ++ (iN 6 0 :: cR g ad xs (p + lE x.2 + 1)) = (cE g ad x.2 p ++ [iN 6 0]) ++ cR g ad xs (p + lE x.2 + 1) by simp] at h
    have h2 := h.app.2
    rw [show p + (cE g ad x.2 p ++ [iN 6 0]).length = p + lE x.2 + 1 by rw [List.length_append, cE_len]; simp; omega] at h2
    obtain ⟨q, h3, h4⟩ := cR_placed xs _ l h2 i r (by simpa using hr)
    exact ⟨q, by rw [aR]; simpa using h3, h4⟩
theorem placed (g : List Rl) : Placed g (adG g) (codeG g) := by
  intro i r hr
  have hs : Seg (codeG g) 2 (cR g (adG g) g 2) := fun j x hx => by
    unfold codeG
    rw [Nat.add_comm]
    simpa using hx
  obtain ⟨q, h1, h2⟩ := cR_placed g 2 _ hs i r hr
  have : adG g i = q := by
    unfold adG
    rw [List.getD_eq_getElem?_getD, h1]
    rfl
  rw [this]
  exact h2
def patch (f : Nat -> Nat) (x : In) : In := if x.op = 5 then { x with n := ((f x.n.toNat : Nat) : Int) } else x
theorem patch_other {f : Nat -> Nat} {x : In} (h : x.op ≠ 5) : patch f x = x := if_neg h
theorem patch_iN {f : Nat -> Nat} {op n : Int} (h : op ≠ 5) : patch f (iN op n) = iN op n := if_neg h
section
variable {g : List Rl} {ad : Nat -> Nat}
theorem patch_lits (f : Nat -> Nat) : ∀ t : List UInt8, (t.map litI).map (patch f) = t.map litI
  | [] => rfl
  | c :: t => by
    rw [List.map_cons, List.map_cons, patch_lits f t, patch_other (show (litI c).op ≠ 5 from (by decide : (1 : Int) ≠ 5))]
theorem patch_S : ∀ (ks : List Ex) (p : Nat), (∀ e ∈ ks, ∀ p, (cE g id e p).map (patch ad) = cE g ad e p) -> (cS g id ks p).map (patch ad) = cS g ad ks p
  | [], _, _ => rfl
  | e :: es, p, h => by
    rw [cS, cS, List.map_append, h e (by simp), patch_S es _ fun x hx => h x (by simp [hx])]
theorem patch_A : ∀ (ks : List Ex) (p fin : Nat), (∀ e ∈ ks, ∀ p, (cE g id e p).map (patch ad) = cE g ad e p) -> (cA g id ks p fin).map (patch ad) = cA g ad ks p fin
  | [], _, _, _ => rfl
  | e :: es, p, fin, h => by
    rw [cA, cA]
    split
    · exact h e (by simp) _
    · rw [List.map_cons, List.map_append, List.map_cons, h e (by simp), patch_A es _ _ fun x hx => h x (by simp [hx]), patch_iN (by decide), patch_iN (by decide)]
theorem patch_star {xs ys : List In} (p : Nat) (h : xs.map (patch ad) = ys) (hl : xs.length = ys.length) : (starI xs p).map (patch ad) = starI ys p := by
  unfold starI
  rw [List.map_cons, List.map_append, h, hl, patch_iN (by decide), List.map_cons, patch_iN (by decide)]
  rfl
theorem patch_E (e : Ex) : ∀ p, (cE g id e p).map (patch ad) = cE g ad e p := by
  refine Ex.ind (P := fun e => ∀ p, (cE g id e p).map (patch ad) = cE g ad e p) ?_ e
  intro k a b c d t ks ih p
  rw [cE, cE]
  by_cases h2 : k = 2
  · rw [if_pos h2, if_pos h2, List.map_cons, patch_other (show (1 : Int) ≠ 5 by decide)]; rfl
  rw [if_neg h2, if_neg h2]
  by_cases h3 : k = 3
  · rw [if_pos h3, if_pos h3]; exact patch_lits ad _
  rw [if_neg h3, if_neg h3]
  by_cases h4 : k = 4
  · rw [if_pos h4, if_pos h4, List.map_cons]
    unfold patch
    rw [if_pos (show (iN 5 _).op = 5 from rfl)]
    rfl
  rw [if_neg h4, if_neg h4]
  by_cases h5 : k = 5
  · rw [if_pos h5, if_pos h5]; exact patch_S ks p ih
  rw [if_neg h5, if_neg h5]
  by_cases h6 : k = 6
  · rw [if_pos h6, if_pos h6]; exact patch_A ks p _ ih
  rw [if_neg h6, if_neg h6]
  cases ks with
  | nil => rw [cK, cK]; rfl
  | cons e es =>
    have he := ih e (by simp)
    have hl : ∀ q, (cE g id e q).length = (cE g ad e q).length := fun q => by rw [cE_len, cE_len]
    rw [cK, cK]
    by_cases k7 : k = 7
    · rw [if_pos k7, if_pos k7]; exact patch_star _ (he _) (hl _)
    rw [if_neg k7, if_neg k7]
    by_cases k8 : k = 8
    · rw [if_pos k8, if_pos k8, List.map_append, he, patch_star _ (he _) (hl _)]
    rw [if_neg k8, if_neg k8]
    by_cases k9 : k = 9
    · rw [if_pos k9, if_pos k9, List.map_cons, List.map_append, he, patch_iN (by decide), List.map_cons, patch_iN (by decide)]; rfl
    rw [if_neg k9, if_neg k9]
    by_cases k10 : k = 10
    · rw [if_pos k10, if_pos k10, List.map_cons, List.map_append, he, patch_iN (by decide), List.map_cons, patch_iN (by decide), List.map_cons, patch_iN (by decide)]; rfl
    rw [if_neg k10, if_neg k10]
    by_cases k11 : k = 11
    · rw [if_pos k11, if_pos k11, List.map_cons, List.map_append, he, patch_iN (by decide), List.map_cons, patch_iN (by decide)]; rfl
    rw [if_neg k11, if_neg k11]
    rfl
theorem patch_R : ∀ (rs : List Rl) (p : Nat), (cR g id rs p).map (patch ad) = cR g ad rs p
  | [], _ => rfl
  | r :: rs, p => by rw [cR, cR, List.map_append, List.map_cons, patch_E, patch_iN (by decide), patch_R rs]
end
def OkAll (m : Nat) (xs : List In) : Prop := ∀ x ∈ xs, okIn m x = true
theorem okIn_iN {m : Nat} {op : Int} {n : Nat} (h1 : 1 <= op) (h2 : op <= 11) (hn : (n : Int) <= if jumpsB op then (m : Int) - 1 else 0) : okIn m (iN op n) = true := by
  unfold okIn iN
  have hz : (In.zero ⟨op, (n : Int), 0, 0, 0, 0⟩) = true := rfl
  simp only [hz, Bool.or_true, Bool.and_true, decide_eq_true_eq, Bool.and_eq_true]
  exact ⟨⟨⟨h1, h2⟩, by omega⟩, hn⟩
theorem ok_set {m : Nat} (a b c d : Nat) : okIn m ⟨1, 0, a, b, c, d⟩ = true := by
  unfold okIn
  simp [jumpsB]
section
variable {g : List Rl} {ad : Nat -> Nat} {m : Nat}
theorem OkAll.nil : OkAll m [] := fun x h => by cases h
theorem OkAll.cons {x : In} {xs : List In} (h : okIn m x = true) (h' : OkAll m xs) : OkAll m (x :: xs) := fun y hy => by
  rcases List.mem_cons.1 hy with rfl | hy
  · exact h
  · exact h' y hy
theorem OkAll.app {xs ys : List In} (h : OkAll m xs) (h' : OkAll m ys) : OkAll m (xs ++ ys) := fun y hy => (List.mem_append.1 hy).elim (h y) (h' y)
theorem ok_S : ∀ (ks : List Ex) (p : Nat), (∀ e ∈ ks, ∀ p, p + lE e < m -> OkAll m (cE g ad e p)) -> p + lS ks < m -> OkAll m (cS g ad ks p)
  | [], _, _, _ => OkAll.nil
  | e :: es, p, h, hp => by
    rw [lS] at hp
    rw [cS]
    exact (h e (by simp) p (by omega)).app (ok_S es _ (fun x hx => h x (by simp [hx])) (by omega))
theorem ok_A (fin : Nat) (hf : fin < m) : ∀ (ks : List Ex) (p : Nat), (∀ e ∈ ks, ∀ p, p + lE e < m -> OkAll m (cE g ad e p)) -> p + lA ks < m -> OkAll m (cA g ad ks p fin)
  | [], _, _, _ => OkAll.nil
  | e :: es, p, h, hp => by
    rw [lA] at hp
    rw [cA]
    split
    · rename_i he
      rw [if_pos he] at hp
      exact h e (by simp) p (by omega)
    · rename_i he
      rw [if_neg he] at hp
      exact OkAll.cons (okIn_iN (by decide) (by decide) (by rw [show jumpsB 3 = true from rfl]; simp; omega)) ((h e (by simp) _ (by omega)).app (OkAll.cons (okIn_iN (by decide) (by decide) (by rw [show jumpsB 4 = true from rfl]; simp; omega)) (ok_A fin hf es _ (fun x hx => h x (by simp [hx])) (by omega))))
theorem ok_star {xs : List In} {p : Nat} (h : OkAll m xs) (hp : p + 2 + xs.length < m) : OkAll m (starI xs p) := by
  unfold starI
  exact OkAll.cons (okIn_iN (by decide) (by decide) (by rw [show jumpsB 3 = true from rfl]; simp; omega)) (h.app (OkAll.cons (okIn_iN (by decide) (by decide) (by rw [show jumpsB 9 = true from rfl]; simp; omega)) OkAll.nil))
theorem ok_zero {op : Int} (h1 : 1 <= op) (h2 : op <= 11) (hm : 0 < m) : okIn m (iN op 0) = true := okIn_iN (n := 0) h1 h2 (by split <;> omega)
theorem ok_E (had : ∀ i, i < g.length -> ad i < m) (e : Ex) : Rt g e -> ∀ p, p + lE e < m -> OkAll m (cE g ad e p) := by
  refine Ex.ind (P := fun e => Rt g e -> ∀ p, p + lE e < m -> OkAll m (cE g ad e p)) ?_ e
  intro k a b c d t ks ih hr p hp
  cases hr with
  | mk _ _ _ _ _ _ _ hfit hname hkids =>
  have hks : ∀ e ∈ ks, ∀ p, p + lE e < m -> OkAll m (cE g ad e p) := fun e he => ih e he (hkids e he)
  rw [lE] at hp
  rw [cE]
  by_cases h2 : k = 2
  · rw [if_pos h2]; exact OkAll.cons (ok_set _ _ _ _) OkAll.nil
  rw [if_neg h2] at hp ⊢
  by_cases h3 : k = 3
  · rw [if_pos h3]
    intro x hx
    obtain ⟨u, _, rfl⟩ := List.mem_map.1 hx
    exact ok_set _ _ _ _
  rw [if_neg h3] at hp ⊢
  by_cases h4 : k = 4
  · rw [if_pos h4]
    obtain ⟨r, hrr, _⟩ := fnd_at (hname h4)
    have := had _ (getElem?_lt hrr)
    exact OkAll.cons (okIn_iN (by decide) (by decide) (by rw [show jumpsB 5 = true from rfl]; simp; omega)) OkAll.nil
  rw [if_neg h4] at hp ⊢
  by_cases h5 : k = 5
  · rw [if_pos h5] at hp ⊢; exact ok_S ks p hks hp
  rw [if_neg h5] at hp ⊢
  by_cases h6 : k = 6
  · rw [if_pos h6] at hp ⊢; exact ok_A _ hp ks p hks hp
  rw [if_neg h6] at hp ⊢
  cases ks with
  | nil => rw [cK]; exact OkAll.nil
  | cons e es =>
    have he := hks e (by simp)
    rw [lK] at hp
    rw [cK]
    by_cases k7 : k = 7
    · rw [if_pos k7] at hp ⊢; exact ok_star (he _ (by omega)) (by rw [cE_len]; omega)
    rw [if_neg k7] at hp ⊢
    by_cases k8 : k = 8
    · rw [if_pos k8] at hp ⊢; exact (he _ (by omega)).app (ok_star (he _ (by omega)) (by rw [cE_len]; omega))
    rw [if_neg k8] at hp ⊢
    by_cases k9 : k = 9
    · rw [if_pos k9] at hp ⊢
      exact OkAll.cons (okIn_iN (by decide) (by decide) (by rw [show jumpsB 3 = true from rfl]; simp; omega)) ((he _ (by omega)).app (OkAll.cons (okIn_iN (by decide) (by decide) (by rw [show jumpsB 4 = true from rfl]; simp; omega)) OkAll.nil))
    rw [if_neg k9] at hp ⊢
    by_cases k10 : k = 10
    · rw [if_pos k10] at hp ⊢
      exact OkAll.cons (okIn_iN (by decide) (by decide) (by rw [show jumpsB 3 = true from rfl]; simp; omega)) ((he _ (by omega)).app (OkAll.cons (okIn_iN (by decide) (by decide) (by rw [show jumpsB 10 = true from rfl]; simp; omega)) (OkAll.cons (ok_zero (by decide) (by decide) (by omega)) OkAll.nil)))
    rw [if_neg k10] at hp ⊢
    by_cases k11 : k = 11
    · rw [if_pos k11] at hp ⊢
      exact OkAll.cons (okIn_iN (by decide) (by decide) (by rw [show jumpsB 3 = true from rfl]; simp; omega)) ((he _ (by omega)).app (OkAll.cons (ok_zero (by decide) (by decide) (by omega)) OkAll.nil))
    rw [if_neg k11] at hp ⊢
    exact OkAll.nil
theorem ok_R (had : ∀ i, i < g.length -> ad i < m) : ∀ (rs : List Rl) (p : Nat), (∀ r ∈ rs, Rt g r.2) -> p + lR rs <= m -> OkAll m (cR g ad rs p)
  | [], _, _, _ => OkAll.nil
  | r :: rs, p, h, hp => by
    rw [lR] at hp
    rw [cR]
    exact (ok_E had r.2 (h r (by simp)) p (by omega)).app (OkAll.cons (ok_zero (by decide) (by decide) (by omega)) (ok_R had rs _ (fun x hx => h x (by simp [hx])) (by omega)))
end
theorem aR_lt : ∀ (rs : List Rl) (p q : Nat), q ∈ aR rs p -> p <= q /\ q < p + lR rs
  | [], _, _, h => by cases h
  | r :: rs, p, q, h => by
    rw [lR]
    rcases List.mem_cons.1 h with rfl | h
    · omega
    · have := aR_lt rs _ q h
      omega
theorem ad_lt (g : List Rl) (i : Nat) (hi : i < g.length) : adG g i < lR g + 2 := by
  unfold adG
  rw [List.getD_eq_getElem?_getD, List.getElem?_eq_getElem (by rw [aR_len]; exact hi)]
  have := aR_lt g 2 _ (List.getElem_mem (h := by rw [aR_len]; exact hi))
  simp only [Option.getD_some]
  omega
theorem codeG_ok {g : List Rl} (h0 : 0 < g.length) (hr : ∀ r ∈ g, Rt g r.2) (h6 : lR g + 2 <= 6000) : checkM (codeG g) = 0 := by
  have h1 : OkAll (lR g + 2) (codeG g) := by
    have h2 := ad_lt g 0 h0
    unfold codeG
    exact OkAll.cons (okIn_iN (by decide) (by decide) (by rw [show jumpsB 5 = true from rfl]; simp; omega)) (OkAll.cons (ok_zero (by decide) (by decide) (by omega)) (ok_R (ad_lt g) g 2 hr (by omega)))
  unfold checkM
  rw [codeG_len, if_neg (by omega), if_pos]
  rw [List.all_eq_true]
  exact h1
def outN (o : Option Nat) : Bool × Nat × Int := (o.isSome, o.getD 0, 0)
theorem code_runs {g : List Rl} (W : WellG g) {s : List UInt8} (h60 : s.length <= 60) {r : Rl} (hr : g[0]? = some r) {n : Nat} {o : Option Nat} (h : evJ g s n (.ex r.2) 0 = some o) : ∃ k, k + 1 <= 16 * cost g s n (.ex r.2) 0 + 16 /\ ∀ j, runM (codeG g) s (k + 1 + j) ⟨0, 0, []⟩ = outN o := by
  have hmem := List.mem_of_getElem? hr
  have hp := placed g 0 r hr
  obtain ⟨hp1, hp2⟩ := hp.app
  rw [cE_len] at hp2
  have hd := dep_top W h60 hmem n
  have h1 := (mgoes (fits_of W.right) (placed g) n).ex r.2 0 o (adG g 0) [(1, -1)] (W.right.rt r hmem) (by omega) h hp1 (by show 1 + _ <= _; omega)
  have hc := cost_pos g s n r.2 0 o h
  have h0 : (codeG g)[0]? = some (iN 5 ((adG g 0 : Nat) : Int)) := rfl
  have h8 : (codeG g)[1]? = some (iN 8 0) := rfl
  cases o with
  | none =>
    have h2 := Mgo.call (a := 0) (p := 0) (st := []) h0 (by simp) (h1.as (r1 := .error 0) (by unfold outM; rw [show ((1, -1) :: ([] : List (Nat × Int))) = [(1, -1)] from rfl]; rfl) (Nat.le_refl _))
    obtain ⟨k, hk, hf⟩ := h2
    refine ⟨k, by omega, fun j => ?_⟩
    rw [Nat.add_assoc, hf]
    rfl
  | some q =>
    have h2 := Mgo.call (a := 0) (p := 0) (st := []) h0 (by simp) (Mgo.trans h1 ((Mgo.here).ret (hp2.cons).1))
    obtain ⟨k, hk, hf⟩ := h2
    refine ⟨k, by omega, fun j => ?_⟩
    rw [Nat.add_assoc, hf, Nat.add_comm]
    show runM (codeG g) s (j + 1) ⟨1, q, []⟩ = _
    rw [runM.eq_def]
    dsimp only
    rw [h8]
    rfl
end Go.Proofs.Ytkmcnekjimobhaa
namespace Go.Proofs.Ytkmcnekjimobhaa
set_option maxRecDepth 100000
open Go.RowKit
def ruF : List Rl -> (Nat -> List Value) -> Nat -> List Value
  | [], _, _ => []
  | r :: g, row, i => .string r.1 :: (row i ++ ruF g row (i + 1))
theorem ruF_len : ∀ (g : List Rl) (row : Nat -> List Value) (i : Nat), (∀ j, j < g.length -> (row (i + j)).length = 7) -> (ruF g row i).length = g.length * 8
  | [], _, _, _ => rfl
  | r :: g, row, i, h => by
    have h0 := h 0 (by simp)
    have h1 := ruF_len g row (i + 1) (fun j hj => by have := h (j + 1) (by simpa using hj); rw [show i + 1 + j = i + (j + 1) by omega]; exact this)
    rw [ruF, List.length_cons, List.length_append, h1]
    simp at h0 ⊢
    omega
theorem ruF_get : ∀ (g : List Rl) (row : Nat -> List Value) (i j : Nat) (r : Rl), (∀ j, j < g.length -> (row (i + j)).length = 7) -> g[j]? = some r -> (ruF g row i)[j * 8]? = some (.string r.1) /\ ∀ u v, (row (i + j))[u]? = some v -> (ruF g row i)[j * 8 + (u + 1)]? = some v
  | [], _, _, _, _, _, h => by simp at h
  | r0 :: g, row, i, 0, r, h7, h => by
    simp at h
    subst h
    refine ⟨rfl, fun u v hu => ?_⟩
    have hu' : (row i)[u]? = some v := by simpa using hu
    rw [ruF, Nat.zero_mul, Nat.zero_add, List.getElem?_cons_succ, List.getElem?_append_left (getElem?_lt hu')]
    exact hu'
  | r0 :: g, row, i, j + 1, r, h7, h => by
    have h0 := h7 0 (by simp)
    simp at h0
    obtain ⟨h1, h2⟩ := ruF_get g row (i + 1) j r (fun j hj => by have := h7 (j + 1) (by simpa using hj); rw [show i + 1 + j = i + (j + 1) by omega]; exact this) (by simpa using h)
    refine ⟨?_, fun u v hu => ?_⟩
    · rw [ruF, show (j + 1) * 8 = (j * 8 + 7) + 1 by omega, List.getElem?_cons_succ, List.getElem?_append_right (by omega), h0, Nat.add_sub_cancel]
      exact h1
    · rw [ruF, show (j + 1) * 8 + (u + 1) = (j * 8 + (u + 1) + 7) + 1 by omega, List.getElem?_cons_succ, List.getElem?_append_right (by omega), h0, Nat.add_sub_cancel]
      exact h2 u v (by rw [show i + 1 + j = i + (j + 1) by omega]; exact hu)
theorem ruF_app : ∀ (g : List Rl) (row : Nat -> List Value) (i : Nat) (h : List Rl), ruF (g ++ h) row i = ruF g row i ++ ruF h row (i + g.length)
  | [], _, _, _ => rfl
  | r :: g, row, i, h => by
    rw [List.cons_append, ruF, ruF, ruF_app g row (i + 1) h, List.length_cons, List.cons_append, List.append_assoc, show i + 1 + g.length = i + (g.length + 1) by omega]
theorem ruF_same : ∀ (g : List Rl) (row row' : Nat -> List Value) (i : Nat), (∀ j, j < g.length -> row (i + j) = row' (i + j)) -> ruF g row i = ruF g row' i
  | [], _, _, _, _ => rfl
  | r :: g, row, row', i, h => by
    rw [ruF, ruF, ruF_same g row row' (i + 1) (fun j hj => by have := h (j + 1) (by simpa using hj); rw [show i + 1 + j = i + (j + 1) by omega]; exact this)]
    have := h 0 (by simp)
    simp at this
    rw [this]
theorem ex_one' {w : World} {B : Nat} {e : Ex} {cs : List Value} (h : ExIs w B e cs) : ∀ u ∈ cs, u.oneCell' = true := by
  obtain ⟨k, a, b, c, d, t, A, n, cp, rfl⟩ := e.parts h
  intro u hu
  simp at hu
  rcases hu with rfl | rfl | rfl | rfl | rfl | rfl | rfl <;> rfl
section
variable {w : World} {B : Nat} {g : List Rl} {A : Option Addr} {cp : Nat} {row : Nat -> List Value}
theorem GrIs.row7 (h : GrIs w B g A cp row) : ∀ j, j < g.length -> (row (0 + j)).length = 7 := fun j hj => by
  rw [Nat.zero_add]
  exact ex_len (h.body j _ (List.getElem?_eq_getElem hj))
theorem GrIs.reads (h : GrIs w B g A cp row) : Reads w B 8 A g.length (ruF g row 0) := by
  refine ⟨ruF_len g row 0 h.row7, fun hn => ?_⟩
  obtain ⟨ad, hA, hb⟩ := h.lies hn
  refine ⟨ad, hA, hb, fun j u hu => ?_⟩
  have hj := getElem?_lt hu
  rw [ruF_len g row 0 h.row7] at hj
  have hq : j / 8 < g.length := by omega
  obtain ⟨h1, h2⟩ := ruF_get g row 0 (j / 8) _ h.row7 (List.getElem?_eq_getElem hq)
  by_cases hr : j % 8 = 0
  · have hj8 : j = j / 8 * 8 := by omega
    rw [hj8] at hu ⊢
    rw [h1] at hu
    injection hu with hu
    subst hu
    exact h.name _ _ ad (List.getElem?_eq_getElem hq) hA
  · have hj8 : j = j / 8 * 8 + ((j % 8 - 1) + 1) := by omega
    have hlen := h.row7 (j / 8) hq
    rw [Nat.zero_add] at hlen
    have hx : (row (j / 8))[j % 8 - 1]? = some ((row (j / 8))[j % 8 - 1]'(by omega)) := List.getElem?_eq_getElem (by omega)
    have h3 := h2 (j % 8 - 1) _ (by rw [Nat.zero_add]; exact hx)
    rw [<- hj8, hu] at h3
    injection h3 with h3
    subst h3
    have h4 := h.cell _ _ ad (List.getElem?_eq_getElem hq) hA _ _ hx
    rw [add_add'] at h4
    rw [<- h4]
    congr 2
end
theorem rule_info : (Try.prog.info? 96).map (fun i => (i.zero, i.size, i.bytes)) = some (some (.agg #[.string ⟨#[]⟩, .int .i64 0, .int .u64 0, .int .u64 0, .int .u64 0, .int .u64 0, .string ⟨#[]⟩, .slice none 0 0]), 8, 96) := by kernel_rfl
end Go.Proofs.Ytkmcnekjimobhaa
namespace Go.Proofs.Ytkmcnekjimobhaa
set_option maxRecDepth 100000
open Go.RowKit Go.Maps
def ExF (S : Nat -> Prop) (hi : Nat) (W : World) (e : Ex) (cs : List Value) : Prop := ∀ X : World, (∀ p : Addr, S p.block -> X.cell? p = W.cell? p) -> ExIs X hi e cs
section
variable {S S' : Nat -> Prop} {hi hi' : Nat} {W W' : World} {e : Ex} {cs : List Value}
theorem ExF.is (h : ExF S hi W e cs) : ExIs W hi e cs := h W fun _ _ => rfl
theorem ExF.keep (h : ExF S hi W e cs) (hk : ∀ p : Addr, S p.block -> W'.cell? p = W.cell? p) : ExF S hi W' e cs := fun X hX => h X fun p hp => (hX p hp).trans (hk p hp)
theorem ExF.mono (h : ExF S hi W e cs) (hs : ∀ b, S b -> S' b) (hh : hi <= hi') : ExF S' hi' W e cs := fun X hX => (h X fun p hp => hX p (hs _ hp)).keep hh fun _ _ => rfl
theorem ExF.set (h : ExF S hi W e cs) {k : Nat} (hk : ¬ S k) (i : Nat) (u : Value) : ExF S hi (W.setCell ⟨k, i, none⟩ u) e cs := h.keep fun p hp => World.cell?_setCell_other W _ p u (by rintro rfl; exact hk hp)
theorem ExF.set7 (h : ExF S hi W e cs) {k : Nat} (hk : ¬ S k) (u0 u1 u2 u3 u4 u5 u6 : Value) : ExF S hi (((((((W.setCell ⟨k, 0, none⟩ u0).setCell ⟨k, 1, none⟩ u1).setCell ⟨k, 2, none⟩ u2).setCell ⟨k, 3, none⟩ u3).setCell ⟨k, 4, none⟩ u4).setCell ⟨k, 5, none⟩ u5).setCell ⟨k, 6, none⟩ u6) e cs := ((((((h.set hk 0 u0).set hk 1 u1).set hk 2 u2).set hk 3 u3).set hk 4 u4).set hk 5 u5).set hk 6 u6
theorem below_set7 {B k : Nat} {w W : World} (h : Below B w W) (hk : B <= k) (u0 u1 u2 u3 u4 u5 u6 : Value) : Below B w (((((((W.setCell ⟨k, 0, none⟩ u0).setCell ⟨k, 1, none⟩ u1).setCell ⟨k, 2, none⟩ u2).setCell ⟨k, 3, none⟩ u3).setCell ⟨k, 4, none⟩ u4).setCell ⟨k, 5, none⟩ u5).setCell ⟨k, 6, none⟩ u6) := ((((((h.setCell hk _).setCell hk _).setCell hk _).setCell hk _).setCell hk _).setCell hk _).setCell hk _
theorem size_set7 {k : Nat} {W : World} (u0 u1 u2 u3 u4 u5 u6 : Value) : (((((((W.setCell ⟨k, 0, none⟩ u0).setCell ⟨k, 1, none⟩ u1).setCell ⟨k, 2, none⟩ u2).setCell ⟨k, 3, none⟩ u3).setCell ⟨k, 4, none⟩ u4).setCell ⟨k, 5, none⟩ u5).setCell ⟨k, 6, none⟩ u6).heap.size = W.heap.size := by simp [World.setCell]
theorem ExF.res7 {lo B k : Nat} (h : ExF (fun b => lo <= b /\ b < W.heap.size) W.heap.size W e cs) (hk : k < lo) (hB : B <= lo) (u0 u1 u2 u3 u4 u5 u6 : Value) : ExF (fun b => B <= b /\ b < (((((((W.setCell ⟨k, 0, none⟩ u0).setCell ⟨k, 1, none⟩ u1).setCell ⟨k, 2, none⟩ u2).setCell ⟨k, 3, none⟩ u3).setCell ⟨k, 4, none⟩ u4).setCell ⟨k, 5, none⟩ u5).setCell ⟨k, 6, none⟩ u6).heap.size)
    (((((((W.setCell ⟨k, 0, none⟩ u0).setCell ⟨k, 1, none⟩ u1).setCell ⟨k, 2, none⟩ u2).setCell ⟨k, 3, none⟩ u3).setCell ⟨k, 4, none⟩ u4).setCell ⟨k, 5, none⟩ u5).setCell ⟨k, 6, none⟩ u6).heap.size (((((((W.setCell ⟨k, 0, none⟩ u0).setCell ⟨k, 1, none⟩ u1).setCell ⟨k, 2, none⟩ u2).setCell ⟨k, 3, none⟩ u3).setCell ⟨k, 4, none⟩ u4).setCell ⟨k, 5, none⟩ u5).setCell ⟨k, 6, none⟩ u6) e cs := by
  rw [size_set7]
  exact (h.set7 (k := k) (fun hb => by omega) u0 u1 u2 u3 u4 u5 u6).mono (fun b hb => ⟨Nat.le_trans hB hb.1, hb.2⟩) (Nat.le_refl _)
theorem ExF.leaf (S : Nat -> Prop) (hi : Nat) (W : World) (k a b c d : Int) (t : ByteArray) (ht : t.size <= maxLen) : ExF S hi W (.mk k a b c d t []) (exCells k a b c d t none 0 0) := fun X _ => ExIs.leaf X hi k a b c d t ht
theorem ExF.node {k a b c d : Int} {t : ByteArray} {ks : List Ex} {A : Option Addr} {cp : Nat} {rows : Nat -> List Value} (ht : t.size <= maxLen) (hl : ks.length <= cp) (hm : cp <= maxLen) (hn : A = none -> cp = 0) (hb : 0 < ks.length -> ∃ ad : Addr, A = some ad /\ ad.block < hi /\ S ad.block)
    (hk : ∀ i e, ks[i]? = some e -> ExF S hi W e (rows i)) (hc : ∀ i e ad, ks[i]? = some e -> A = some ad -> ∀ j u, (rows i)[j]? = some u -> W.cell? ((ad.add (i * 7)).add j) = some u) : ExF S hi W (.mk k a b c d t ks) (exCells k a b c d t A ks.length cp) :=
  fun X hX => .mk k a b c d t ks A cp rows ht hl hm hn (fun h0 => by obtain ⟨ad, h1, h2, _⟩ := hb h0; exact ⟨ad, h1, h2⟩) (fun i e he => hk i e he X hX) fun i e ad he hA j u hu => by
    obtain ⟨ad', h1, _, h3⟩ := hb (by have := getElem?_lt he; omega)
    rw [hA] at h1
    injection h1 with h1
    subst h1
    rw [hX _ (by rw [add_block, add_block]; exact h3)]
    exact hc i e ad he hA j u hu
theorem ExF.len7 (h : ExF S hi W e cs) : cs.length = 7 := ex_len h.is
end
def MadeQ (f : Ex) (w : World) (r : Ending) (w' : World) : Prop := (∃ cs, r = .returned (.agg cs.toArray) /\ ExF (fun b => w.heap.size <= b /\ b < w'.heap.size) w'.heap.size w' f cs) /\ Below w.heap.size w w'
def kdF (rows : Nat -> List Value) : Nat -> List Value
  | 0 => []
  | j + 1 => kdF rows j ++ rows j
theorem kdF_len {rows : Nat -> List Value} : ∀ {j : Nat}, (∀ i, i < j -> (rows i).length = 7) -> (kdF rows j).length = j * 7
  | 0, _ => rfl
  | j + 1, h => by rw [kdF, List.length_append, kdF_len (fun i hi => h i (by omega)), h j (by omega)]; omega
theorem kdF_get {rows : Nat -> List Value} : ∀ {j : Nat}, (∀ i, i < j -> (rows i).length = 7) -> ∀ {i u : Nat} {v : Value}, i < j -> (rows i)[u]? = some v -> (kdF rows j)[i * 7 + u]? = some v
  | 0, _, i, _, _, hi, _ => absurd hi (by omega)
  | j + 1, h, i, u, v, hi, hu => by
    have hl := kdF_len (rows := rows) (j := j) (fun i hi => h i (by omega))
    have h7 := h i hi
    have hu7 := getElem?_lt hu
    rw [kdF]
    by_cases hij : i = j
    · subst hij
      rw [List.getElem?_append_right (by omega), hl, Nat.add_sub_cancel_left]
      exact hu
    · have := kdF_get (j := j) (fun i hi => h i (by omega)) (i := i) (by omega) hu
      rw [List.getElem?_append_left (getElem?_lt this)]
      exact this
theorem kdF_same {rows rows' : Nat -> List Value} : ∀ {j : Nat}, (∀ i, i < j -> rows i = rows' i) -> kdF rows j = kdF rows' j
  | 0, _ => rfl
  | j + 1, h => by rw [kdF, kdF, kdF_same (fun i hi => h i (by omega)), h j (by omega)]
structure Kids (base : Nat) (W : World) (es : List Ex) (V : Option Addr) (c : Nat) (rows : Nat -> List Value) : Prop where
  own : W.ownsRow base 37 7 (.slice V es.length c) es.length (kdF rows es.length)
  kid : ∀ i e, es[i]? = some e -> ExF (fun b => base <= b /\ b < W.heap.size /\ some b ≠ (Value.slice V es.length c).ownBlock) W.heap.size W e (rows i)
section
variable {base : Nat} {W W' : World} {es : List Ex} {V : Option Addr} {c : Nat} {rows : Nat -> List Value}
theorem Kids.nil (base : Nat) (W : World) : Kids base W [] none 0 (fun _ => []) := ⟨World.ownsRow_nil _ _ _ _, fun i e h => by simp at h⟩
theorem Kids.below (h : Kids base W es V c rows) (hb : Below W.heap.size W W') : Kids base W' es V c rows :=
  ⟨own_below h.own hb, fun i e he => ((h.kid i e he).keep (W' := W') fun _ hp => hb.cell hp.2.1).mono (fun _ hb' => ⟨hb'.1, Nat.lt_of_lt_of_le hb'.2.1 hb.size, hb'.2.2⟩) hb.size⟩
theorem Kids.far (h : Kids base W es V c rows) {k : Nat} (hk : k < base) (i : Nat) (u : Value) : Kids base (W.setCell ⟨k, i, none⟩ u) es V c rows :=
  have hs : (W.setCell ⟨k, i, none⟩ u).heap.size = W.heap.size := by simp [World.setCell]
  ⟨own_far h.own ⟨rfl, rfl, rfl, by simp [World.setCell], fun q hq hne => Below.heap_setCell W ⟨k, i, none⟩ u q (by rintro rfl; exact hne rfl)⟩ hk, fun j e he => by
    rw [hs]
    exact (h.kid j e he).keep fun p hp => World.cell?_setCell_other W _ p u (by rintro rfl; have := hp.1; simp at this; omega)⟩
theorem Kids.len7 (h : Kids base W es V c rows) : ∀ i, i < es.length -> (rows i).length = 7 := fun i hi => (h.kid i _ (List.getElem?_eq_getElem hi)).len7
theorem Kids.push {V' : Option Addr} {c' lo : Nat} {e : Ex} {r : List Value} (h : Kids base W es V c rows) (hlo : base <= lo) (hold : ∀ q, (Value.slice V es.length c).ownBlock = some q -> q < lo) (hE : ExF (fun b => lo <= b /\ b < W.heap.size) W.heap.size W e r)
    (hown : W'.ownsRow base 37 7 (.slice V' (es.length + 1) c') (es.length + 1) (kdF rows es.length ++ r)) (hg : W.grownBy W' (Value.slice V es.length c).ownBlock)
    (hat : (Value.slice V' (es.length + 1) c').ownBlock = (Value.slice V es.length c).ownBlock \/ (Value.slice V' (es.length + 1) c').ownBlock = some W.heap.size) :
    Kids base W' (es ++ [e]) V' c' (fun i => if i = es.length then r else rows i) := by
  have hl : (es ++ [e]).length = es.length + 1 := by simp
  have hne : ∀ b, b < W.heap.size -> some b ≠ (Value.slice V es.length c).ownBlock -> some b ≠ (Value.slice V' (es.length + 1) c').ownBlock := fun b hb hne => by
    rcases hat with h1 | h1
    · rw [h1]; exact hne
    · rw [h1]; intro e; injection e with e; omega
  have hkeep : ∀ p : Addr, p.block < W.heap.size -> some p.block ≠ (Value.slice V es.length c).ownBlock -> W'.cell? p = W.cell? p := fun p h1 h2 => World.cell?_of_block (hg.block p.block h1 h2)
  constructor
  · rw [hl, kdF, if_pos rfl, kdF_same (rows' := rows) fun i hi => if_neg (by omega)]
    exact hown
  · intro i x hx
    rw [hl]
    by_cases hi : i < es.length
    · rw [List.getElem?_append_left hi] at hx
      rw [if_neg (by omega)]
      exact ((h.kid i x hx).keep (W' := W') fun p hp => hkeep p hp.2.1 hp.2.2).mono (fun b hb => ⟨hb.1, Nat.lt_of_lt_of_le hb.2.1 hg.size, hne b hb.2.1 hb.2.2⟩) hg.size
    · have hi' : i = es.length := by have := getElem?_lt hx; simp at this; omega
      subst hi'
      simp at hx
      subst hx
      rw [if_pos rfl]
      have hx : ∀ b, lo <= b -> some b ≠ (Value.slice V es.length c).ownBlock := fun b hb e => by have := hold b e.symm; omega
      exact (hE.keep (W' := W') fun p hp => hkeep p hp.2 (hx _ hp.1)).mono (fun b hb => ⟨Nat.le_trans hlo hb.1, Nat.lt_of_lt_of_le hb.2 hg.size, hne b hb.2 (hx b hb.1)⟩) hg.size
theorem Kids.old (h : Kids base W es V c rows) : ∀ q, (Value.slice V es.length c).ownBlock = some q -> q < W.heap.size := fun q hq => (h.own.lt q hq).2
theorem Kids.shape (h : Kids base W es V c rows) : es.length <= c /\ c <= maxLen /\ (V = none -> c = 0) /\ (0 < es.length -> ∃ ad : Addr, V = some ad /\ ad.block < W.heap.size /\ base <= ad.block /\ ad.block < W.heap.size) /\
    ∀ (i : Nat) (e : Ex) (ad : Addr), es[i]? = some e -> V = some ad -> ∀ j u, (rows i)[j]? = some u -> W.cell? ((ad.add (i * 7)).add j) = some u := by
  have ho := h.own
  have hlt := ho.lt
  have h7 := h.len7
  rcases ho.2 with ⟨h1, h2⟩ | ⟨g1, cap, cur, hv, h3, h4, h5, h6, _⟩
  · injection h1 with e1 e2 e3
    subst e1 e3
    exact ⟨by omega, by unfold maxLen; omega, fun _ => rfl, fun h => by omega, fun _ _ _ _ h => by cases h⟩
  · injection hv with e1 e2 e3
    subst e1 e3
    refine ⟨h5, h6, fun h => (by cases h), fun _ => ⟨_, rfl, (hlt g1 rfl).2, (hlt g1 rfl).1, (hlt g1 rfl).2⟩, fun i e ad he hA j u hu => ?_⟩
    injection hA with hA
    subst hA
    rw [add_add']
    exact ho.cells rfl _ u (kdF_get h7 (getElem?_lt he) hu)
theorem Kids.node (h : Kids base W es V c rows) (k a b c' d : Int) (t : ByteArray) (ht : t.size <= maxLen) : ExF (fun b => base <= b /\ b < W.heap.size) W.heap.size W (.mk k a b c' d t es) (exCells k a b c' d t V es.length c) := by
  obtain ⟨h1, h2, h3, h4, h5⟩ := h.shape
  exact ExF.node ht h1 h2 h3 h4 (fun i e he => (h.kid i e he).mono (fun b hb => ⟨hb.1, hb.2.1⟩) (Nat.le_refl _)) h5
end
theorem ExF.one {S : Nat -> Prop} {hi b : Nat} {W : World} {T : TypeId} {e : Ex} {r : List Value} {cs : Array Value} (h : ExF S hi W e r) (hb : Blk W b T cs) (hcs : cs.toList = r) (hS : S b) (hlt : b < hi) (k : Int) : ExF S hi W (ofN k [e]) (exCells k 0 0 0 0 ⟨#[]⟩ (some ⟨b, 0, none⟩) 1 1) :=
  ExF.node (ks := [e]) (rows := fun _ => r) (by decide) (Nat.le_refl _) (by simp [maxLen]) (fun h => by cases h) (fun _ => ⟨_, rfl, hlt, hS⟩) (fun i x hx => by
    match i, hx with
    | 0, hx => simp at hx; subst hx; exact h) fun i x ad hx hA j u hu => by
    match i, hx with
    | 0, hx =>
      injection hA with hA
      subst hA
      rw [Nat.zero_mul, add_at, cell_add, hb.cell, <- Array.getElem?_toList, hcs, Nat.zero_add]
      exact hu
theorem ExF.two {S : Nat -> Prop} {hi b : Nat} {W : World} {T : TypeId} {e f : Ex} {r q : List Value} {cs : Array Value} (h : ExF S hi W e r) (h' : ExF S hi W f q) (hb : Blk W b T cs) (hcs : cs.toList = r ++ q) (hS : S b) (hlt : b < hi) (k : Int) : ExF S hi W (ofN k [e, f]) (exCells k 0 0 0 0 ⟨#[]⟩ (some ⟨b, 0, none⟩) 2 2) :=
  have h7 := h.len7
  ExF.node (ks := [e, f]) (rows := fun i => if i = 0 then r else q) (by decide) (Nat.le_refl _) (by simp [maxLen]) (fun h => by cases h) (fun _ => ⟨_, rfl, hlt, hS⟩) (fun i x hx => by
    match i, hx with
    | 0, hx => simp at hx; subst hx; exact h
    | 1, hx => simp at hx; subst hx; exact h') fun i x ad hx hA j u hu => by
    match i, hx with
    | 0, hx =>
      injection hA with hA
      subst hA
      rw [if_pos rfl] at hu
      rw [Nat.zero_mul, add_at, cell_add, hb.cell, <- Array.getElem?_toList, hcs, Nat.zero_add, List.getElem?_append_left (getElem?_lt hu)]
      exact hu
    | 1, hx =>
      injection hA with hA
      subst hA
      rw [if_neg (by decide)] at hu
      rw [add_at, cell_add, hb.cell, <- Array.getElem?_toList, hcs, List.getElem?_append_right (by omega), h7, Nat.one_mul, Nat.add_sub_cancel_left]
      exact hu
theorem stepT_append_at {P : Program} {o : Oper} {a : Act} {w : World} {K : Act -> World -> Prop}
    (s x : Operand) (t : TypeId) (hop : o.op = Op.call { callee := Callee.builtin Builtin.append, args := #[s, x], argTypes := #[t, t] })
    (base : Nat) (e : TypeId) (i : TypeInfo) (z : Value) (size bytes : Nat) (h1 : P.underlying t = some (.slice e)) (h2 : P.info? e = some i) (h3 : i.zero = some z) (h4 : i.size = size) (h5 : i.bytes = bytes) (h6 : z.cells.size = size) (h7 : 0 < size)
    (v : Value) (n : Nat) (xs : List Value) (hs : a.eval s = v) (hown : w.ownsRow base e size v n xs)
    (ad : Addr) (m c : Nat) (news : List Value) (hx : a.eval x = .slice (some ad) m c) (hn : news.length = m * size) (hc : ∀ j u, news[j]? = some u -> w.cell? (ad.add j) = some u) (h1c : ∀ u ∈ news, u.oneCell' = true)
    (b1 : n + m <= maxLen) (b2 : (n + m) * bytes <= 140737488355328) (hb : base <= w.heap.size)
    (hK : ∀ v' w', w'.ownsRow base e size v' (n + m) (xs ++ news) -> w.grownBy w' v.ownBlock -> (v'.ownBlock = v.ownBlock \/ v'.ownBlock = some w.heap.size) -> K (a.put o.dst v') w') : stepT P o a w K := by
  obtain ⟨v', w', hrun, r1, r2, _, r3⟩ := run_append_own_at (P := P) w base t o.type e i z size bytes h1 h2 h3 h4 h5 h6 h7 v n xs hown ad m c news hn hc h1c b1 b2 hb
  unfold stepT
  simp [execOp, hop, resolve, invoke, builtin, hs, hx, hrun, Result.andThen]
  exact hK v' w' r1 r2 r3
theorem expr_info : (Try.prog.info? 37).map (fun i => (i.zero, i.size, i.bytes)) = some (some (.agg #[.int .i64 0, .int .u64 0, .int .u64 0, .int .u64 0, .int .u64 0, .string ⟨#[]⟩, .slice none 0 0]), 7, 80) := by kernel_rfl
inductive K8 : Ex -> Prop
  | mk (k a b c d : Int) (t : ByteArray) (ks : List Ex) : ks.length <= 8 -> (∀ e ∈ ks, K8 e) -> K8 (.mk k a b c d t ks)
structure KdC (ob kb : Nat) (o k : Array Value) (W : World) : Prop where
  out : Blk W ob 37 o
  kid : Blk W kb 37 k
theorem KdC.below {ob kb : Nat} {o k : Array Value} {W W' : World} (h : KdC ob kb o k W) (hb : Below W.heap.size W W') : KdC ob kb o k W' := ⟨h.out.below hb h.out.lt, h.kid.below hb h.kid.lt⟩
theorem KdC.drew {ob kb : Nat} {o k : Array Value} {W : World} (h : KdC ob kb o k W) : KdC ob kb o k W.drew := ⟨h.out.drew, h.kid.drew⟩
theorem KdC.grown {ob kb : Nat} {o k : Array Value} {W W' : World} {r : Option Nat} (h : KdC ob kb o k W) (hg : W.grownBy W' r) (h1 : some ob ≠ r) (h2 : some kb ≠ r) : KdC ob kb o k W' := ⟨h.out.grown hg h1, h.kid.grown hg h2⟩
end Go.Proofs.Ytkmcnekjimobhaa
