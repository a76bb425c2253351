/- A parser that remembers finds what the grammar means. Plain. What well.sound answers; well.grow of bools. well.grow of bools; well.Well, well.Facts, mean.Look. well.Facts, mean.Look. -/
import Derived.Test.YtndhbdbfjkmloaaJTopTree6
import Derived.Test.YtndhbdbfjkmloaaJTopTree5
namespace Go.Proofs.Ytndhbdbfjkmloaa

theorem recall_app (l : List ((Nat × Nat) × Option Nat)) (k k' : Nat × Nat) (v : Option Nat) : recall (l ++ [(k, v)]) k' = if (recall l k').isSome then recall l k' else if k = k' then some v else none := by
  unfold recall
  rw [List.find?_append]
  cases h : l.find? (fun x => decide (x.1 = k')) with
  | some x => simp
  | none =>
    by_cases hk : k = k'
    · subst hk; simp
    · simp [hk]
/-- all that is remembered is what the grammar means -/
def Agree (g : List Rl) (s : List UInt8) (σ : PS) : Prop := ∀ i p o, recall σ.seen (i, p) = some o → ∃ r n, g[i]? = some r ∧ ev g s n r.2 p = some (o.map (p + ·))
/-- what is new came to its end sooner -/
def Fresh (g : List Rl) (s : List UInt8) (n : Nat) (σ σ1 : PS) : Prop := ∀ i p, (recall σ1.seen (i, p)).isSome = true → (recall σ.seen (i, p)).isSome = true ∨ ∃ r k, k < n ∧ g[i]? = some r ∧ (ev g s k r.2 p).isSome = true
def Goes (g : List Rl) (s : List UInt8) (hook : Bool) (n : Nat) (j : PJob) (p : Nat) (σ : PS) (o : Option Nat) : Prop := ∃ m σ1, pk g s hook m j p σ = some (o, σ1) ∧ Agree g s σ1 ∧ Fresh g s n σ σ1

section
variable {g : List Rl} {s : List UInt8} {hook : Bool} {fs : List Fa}
theorem Fresh.rfl' {n : Nat} {σ : PS} : Fresh g s n σ σ := fun _ _ h => .inl h
theorem Fresh.of_eq {n : Nat} {σ σ1 : PS} (h : σ1.seen = σ.seen) : Fresh g s n σ σ1 := fun _ _ hh => .inl (by rw [← h]; exact hh)
theorem Fresh.trans {n m k : Nat} {σ σ1 σ2 : PS} (h1 : Fresh g s n σ σ1) (h2 : Fresh g s m σ1 σ2) (hn : n ≤ k) (hm : m ≤ k) : Fresh g s k σ σ2 := fun i p h => by
  rcases h2 i p h with h | ⟨r, a, ha, hb⟩
  · rcases h1 i p h with h | ⟨r, a, ha, hb⟩
    · exact .inl h
    · exact .inr ⟨r, a, by omega, hb⟩
  · exact .inr ⟨r, a, by omega, hb⟩
theorem Agree.of_eq {σ σ1 : PS} (h : Agree g s σ) (he : σ1.seen = σ.seen) : Agree g s σ1 := fun i p o hh => h i p o (by rw [← he]; exact hh)
theorem missS_seen (σ : PS) (p : Nat) (w : S4) : (missS σ p w).seen = σ.seen := by
  unfold missS
  split
  · rfl
  · split <;> rfl
theorem markS_seen (σ : PS) (n : Nat) (ok : Bool) : (markS hook σ n ok).seen = σ.seen := by
  unfold markS
  split <;> rfl
theorem Goes.try_ {n num p : Nat} {e : Ex} {σ : PS} {o : Option Nat} (h : Goes g s hook n (.node e num) p σ o) : Goes g s hook n (.try_ e num) p σ o := by
  obtain ⟨m, σ1, h1, h2, h3⟩ := h
  refine ⟨m + 1, markS hook σ1 num o.isSome, by simp only [pk, h1], h2.of_eq (markS_seen _ _ _), ?_⟩
  intro i q hh
  rw [markS_seen] at hh
  exact h3 i q hh
theorem least_fuel {e : Ex} {p : Nat} : ∀ n, (ev g s n e p).isSome = true → ∃ n0, n0 ≤ n ∧ (ev g s n0 e p).isSome = true ∧ ∀ k, k < n0 → (ev g s k e p).isSome = false := by
  intro n
  induction n using Nat.strongRecOn with
  | _ n ih =>
    intro h
    by_cases hk : ∃ k, k < n ∧ (ev g s k e p).isSome = true
    · obtain ⟨k, hk, hs⟩ := hk
      obtain ⟨n0, h1, h2, h3⟩ := ih k hk hs
      exact ⟨n0, by omega, h2, h3⟩
    · refine ⟨n, Nat.le_refl _, h, fun k hkn => ?_⟩
      cases hc : (ev g s k e p).isSome with
      | false => rfl
      | true => exact absurd ⟨k, hkn, hc⟩ hk

theorem goes_rule (H : Fits g fs) {n i p : Nat} {r : Rl} {o : Option Nat} (hp : p ≤ s.length) (hr : g[i]? = some r) (he : ev g s n r.2 p = some o)
    (ih : ∀ n0, n0 ≤ n → ∀ o, ev g s n0 r.2 p = some o → ∀ σ num, Agree g s σ → Goes g s hook n0 (.node r.2 num) p σ o) {σ : PS} (hσ : Agree g s σ) : Goes g s hook (n + 1) (.rule i) p σ o := by
  have hmem := List.mem_of_getElem? hr
  cases hs : recall σ.seen (i, p) with
  | some o' =>
    obtain ⟨r', n', hr', he'⟩ := hσ i p o' hs
    rw [hr] at hr'
    injection hr' with hr'
    subst hr'
    have := ev_eq he he'
    subst this
    exact ⟨1, σ, by simp only [pk, hs], hσ, Fresh.rfl'⟩
  | none =>
    obtain ⟨n0, h1, h2, h3⟩ := least_fuel n (by rw [he]; rfl)
    obtain ⟨o0, h0⟩ := Option.isSome_iff_exists.1 h2
    have := ev_eq h0 he
    subst this
    have ht := (told H n).1 r.2 p _ (H.right r hmem) hp he
    obtain ⟨m, σ1, e1, e2, e3⟩ := (ih n0 h1 _ h0 σ (firstN g i) hσ).try_
    have hnone : (recall σ1.seen (i, p)).isSome = false := by
      cases hc : (recall σ1.seen (i, p)).isSome with
      | false => rfl
      | true =>
        rcases e3 i p hc with hh | ⟨r', k, hk, hr', hh⟩
        · rw [hs] at hh; cases hh
        · rw [hr] at hr'
          injection hr' with hr'
          subst hr'
          rw [h3 k hk] at hh
          cases hh
    have hback : (o0.map (· - p)).map (p + ·) = o0 := by
      cases o0 with
      | none => rfl
      | some to => show some (p + (to - p)) = some to; rw [Nat.add_sub_cancel' ht.1]
    refine ⟨m + 1, { σ1 with seen := σ1.seen ++ [((i, p), o0.map (· - p))], log := σ1.log ++ [(i, p, o0.map (· - p))] }, ?_, ?_, ?_⟩
    · simp only [pk, hs, hr, e1, hnone]
      rfl
    · intro j q o' hh
      rw [recall_app] at hh
      split at hh
      · exact e2 j q o' hh
      · split at hh
        · rename_i hk
          injection hk with hk1 hk2
          subst hk1 hk2
          injection hh with hh
          subst hh
          exact ⟨r, n, hr, by rw [hback]; exact he⟩
        · cases hh
    · intro j q hh
      rw [recall_app] at hh
      split at hh
      · rename_i hc
        rcases e3 j q hc with hh | ⟨r', k, hk, hr', hh⟩
        · exact .inl hh
        · exact .inr ⟨r', k, by omega, hr', hh⟩
      · split at hh
        · rename_i hk
          injection hk with hk1 hk2
          subst hk1 hk2
          exact .inr ⟨r, n0, by omega, hr, h2⟩
        · cases hh

/-- after a try -/
theorem Goes.then {n num p : Nat} {e : Ex} {σ : PS} {u o : Option Nat} {j : PJob} (h : Goes g s hook n (.try_ e num) p σ u)
    (hh : ∀ m σ1, pk g s hook m (.try_ e num) p σ = some (u, σ1) → Agree g s σ1 → ∃ m' σ2, pk g s hook m' j p σ = some (o, σ2) ∧ Agree g s σ2 ∧ Fresh g s n σ1 σ2) : Goes g s hook (n + 1) j p σ o := by
  obtain ⟨m, σ1, h1, h2, h3⟩ := h
  obtain ⟨m', σ2, e1, e2, e3⟩ := hh m σ1 h1 h2
  exact ⟨m', σ2, e1, e2, h3.trans e3 (by omega) (by omega)⟩

theorem goes (H : Fits g fs) : ∀ n, (∀ e p o, Rt g e → p ≤ s.length → ev g s n e p = some o → ∀ σ num, Agree g s σ → Goes g s hook n (.node e num) p σ o) ∧
    (∀ k e p o, 7 ≤ k ∧ k ≤ 11 → Rt g e → p ≤ s.length → evK g s n k e p = some o → ∀ σ num, Agree g s σ → Goes g s hook n (.one k e num) p σ o) ∧
    (∀ es p o, (∀ e ∈ es, Rt g e) → p ≤ s.length → evS g s n es p = some o → ∀ σ num, Agree g s σ → Goes g s hook n (.seq es num) p σ o) ∧
    (∀ es p o, (∀ e ∈ es, Rt g e) → p ≤ s.length → evA g s n es p = some o → ∀ σ num, Agree g s σ → Goes g s hook n (.alt es num) p σ o) ∧
    (∀ e p o, Rt g e → p ≤ s.length → evR g s n e p = some o → ∀ σ num, Agree g s σ → Goes g s hook n (.rep e num) p σ o) := by
  intro n
  induction n using Nat.strongRecOn with
  | _ n ih =>
    cases n with
    | zero => exact ⟨fun e p o _ _ h => (by cases h), fun k e p o _ _ _ h => (by cases h), fun es p o _ _ h => (by cases h), fun es p o _ _ h => (by cases h), fun e p o _ _ h => (by cases h)⟩
    | succ n =>
      obtain ⟨i1, i2, i3, i4, i5⟩ := ih n (by omega)
      have tl := fun e p o hrt hp he => (told (s := s) H n).1 e p o hrt hp he
      refine ⟨?_, ?_, ?_, ?_, ?_⟩
      · rintro ⟨k, a, b, c, d, t, ks⟩ p o hrt hp h σ num hσ
        rw [ev_s] at h
        have hup : ∀ {j : PJob}, Goes g s hook n j p σ o → (∀ m, pk g s hook (m + 1) (.node (.mk k a b c d t ks) num) p σ = pk g s hook m j p σ) → Goes g s hook (n + 1) (.node (.mk k a b c d t ks) num) p σ o := by
          rintro j ⟨m, σ1, e1, e2, e3⟩ hj
          exact ⟨m + 1, σ1, by rw [hj]; exact e1, e2, e3.trans (k := n + 1) (Fresh.rfl' (n := 0)) (by omega) (by omega)⟩
        have hat : ∀ {σ1 : PS}, σ1.seen = σ.seen → pk g s hook 1 (.node (.mk k a b c d t ks) num) p σ = some (o, σ1) → Goes g s hook (n + 1) (.node (.mk k a b c d t ks) num) p σ o := fun hs hh => ⟨1, _, hh, hσ.of_eq hs, Fresh.of_eq hs⟩
        cases hrt with
        | mk _ _ _ _ _ _ _ hfit hname hkids =>
        rcases fit_cases hfit with ⟨rfl, h0⟩ | ⟨rfl, h0⟩ | ⟨rfl, h0, _, _⟩ | ⟨rfl, h0, _⟩ | ⟨rfl, h2, h8⟩ | ⟨rfl, h2, h8⟩ | ⟨h7, h11, h1⟩
        · rw [if_pos rfl] at h
          injection h with h; subst h
          exact hat rfl (by rw [pk_node, if_pos rfl])
        · rw [if_neg (by decide), if_pos rfl] at h
          injection h with h; subst h
          by_cases hc : p < s.length ∧ hasE a b c d (bt s p) = true
          · exact hat rfl (by rw [pk_node, if_neg (by decide), if_pos rfl, if_pos hc, if_pos hc])
          · exact hat (missS_seen _ _ _) (by rw [pk_node, if_neg (by decide), if_pos rfl, if_neg hc, if_neg hc])
        · rw [if_neg (by decide), if_neg (by decide), if_pos rfl] at h
          injection h with h; subst h
          by_cases hc : litAt s p t.data.toList = true
          · exact hat rfl (by rw [pk_node, if_neg (by decide), if_neg (by decide), if_pos rfl, if_pos hc, if_pos hc])
          · exact hat (missS_seen _ _ _) (by rw [pk_node, if_neg (by decide), if_neg (by decide), if_pos rfl, if_neg hc, if_neg hc])
        · rw [if_neg (by decide), if_neg (by decide), if_neg (by decide), if_pos rfl] at h
          obtain ⟨r, hr, _⟩ := fnd_at (hname rfl)
          rw [hr] at h
          obtain ⟨m, σ1, e1, e2, e3⟩ := goes_rule (hook := hook) H hp hr h (fun n0 hn0 o ho σ num hσ => (ih n0 (by omega)).1 r.2 p o (H.right r (List.mem_of_getElem? hr)) hp ho σ num hσ) hσ
          exact ⟨m + 1, σ1, by rw [pk_node, if_neg (by decide), if_neg (by decide), if_neg (by decide), if_pos rfl]; exact e1, e2, e3⟩
        · rw [if_neg (by decide), if_neg (by decide), if_neg (by decide), if_neg (by decide), if_pos rfl] at h
          exact hup (i3 ks p o hkids hp h σ (num + 1) hσ) fun m => by rw [pk_node, if_neg (by decide), if_neg (by decide), if_neg (by decide), if_neg (by decide), if_pos rfl]
        · rw [if_neg (by decide), if_neg (by decide), if_neg (by decide), if_neg (by decide), if_neg (by decide), if_pos rfl] at h
          exact hup (i4 ks p o hkids hp h σ (num + 1) hσ) fun m => by rw [pk_node, if_neg (by decide), if_neg (by decide), if_neg (by decide), if_neg (by decide), if_neg (by decide), if_pos rfl]
        · rw [if_neg (by omega), if_neg (by omega), if_neg (by omega), if_neg (by omega), if_neg (by omega), if_neg (by omega)] at h
          cases ks with
          | nil => simp at h1
          | cons e es =>
            exact hup (i2 k e p o ⟨h7, h11⟩ (hkids e (by simp)) hp h σ num hσ) fun m => by rw [pk_node, if_neg (by omega), if_neg (by omega), if_neg (by omega), if_neg (by omega), if_neg (by omega), if_neg (by omega)]
      · rintro k e p o hk hrt hp h σ num hσ
        rw [evK_s] at h
        by_cases k7 : k = 7
        · subst k7
          rw [if_pos rfl] at h
          cases n with
          | zero => cases h
          | succ n =>
            rw [evR_s] at h
            obtain ⟨j1, _, _, _, j5⟩ := ih n (by omega)
            cases he : ev g s n e p with
            | none => rw [he] at h; cases h
            | some u =>
              rw [he] at h
              obtain ⟨m, σ1, e1, e2, e3⟩ := (j1 e p u hrt hp he σ (num + 1) hσ).try_
              cases u with
              | none =>
                injection h with h; subst h
                exact ⟨m + 1, σ1, by simp only [pk, e1]; rfl, e2, e3.trans (k := n + 1 + 1) (Fresh.rfl' (n := 0)) (by omega) (by omega)⟩
              | some to =>
                have ht := (told (s := s) H n).1 e p _ hrt hp he
                obtain ⟨m', σ2, f1, f2, f3⟩ := j5 e to o hrt ht.2.1 h σ1 (num + 1) e2
                refine ⟨max m m' + 1, σ2, ?_, f2, e3.trans f3 (by omega) (by omega)⟩
                simp only [pk, pk_le e1 (Nat.le_max_left m m')]
                rw [if_neg (by decide), if_neg (by decide), if_neg (by decide)]
                exact pk_le f1 (Nat.le_max_right m m')
        rw [if_neg k7] at h
        cases he : ev g s n e p with
        | none => rw [he] at h; cases h
        | some u =>
          rw [he] at h
          obtain ⟨m, σ1, e1, e2, e3⟩ := (i1 e p u hrt hp he σ (num + 1) hσ).try_
          cases u with
          | none =>
            injection h with h; subst h
            exact ⟨m + 1, σ1, by simp only [pk, e1], e2, e3.trans (k := n + 1) (Fresh.rfl' (n := 0)) (by omega) (by omega)⟩
          | some to =>
            simp only at h
            by_cases k8 : k = 8
            · rw [if_pos k8] at h
              subst k8
              obtain ⟨m', σ2, f1, f2, f3⟩ := i5 e to o hrt (tl e p _ hrt hp he).2.1 h σ1 (num + 1) e2
              refine ⟨max m m' + 1, σ2, ?_, f2, e3.trans f3 (by omega) (by omega)⟩
              simp only [pk, pk_le e1 (Nat.le_max_left m m')]
              rw [if_neg (by decide), if_neg (by decide), if_neg (by decide)]
              exact pk_le f1 (Nat.le_max_right m m')
            · rw [if_neg k8] at h
              refine ⟨m + 1, σ1, ?_, e2, e3.trans (k := n + 1) (Fresh.rfl' (n := 0)) (by omega) (by omega)⟩
              simp only [pk, e1]
              by_cases k9 : k = 9
              · subst k9; simp at h ⊢; exact h
              by_cases k10 : k = 10
              · subst k10; simp at h ⊢; exact h
              have k11 : k = 11 := by omega
              subst k11
              simp at h ⊢; exact h
      · rintro es p o hrt hp h σ num hσ
        cases es with
        | nil =>
          rw [evS_nil] at h
          injection h with h; subst h
          exact ⟨1, σ, rfl, hσ, Fresh.rfl'⟩
        | cons e es =>
          rw [evS_cons] at h
          cases he : ev g s n e p with
          | none => rw [he] at h; cases h
          | some u =>
            rw [he] at h
            obtain ⟨m, σ1, e1, e2, e3⟩ := (i1 e p u (hrt e (by simp)) hp he σ num hσ).try_
            cases u with
            | none =>
              injection h with h; subst h
              exact ⟨m + 1, σ1, by simp only [pk, e1], e2, e3.trans (k := n + 1) (Fresh.rfl' (n := 0)) (by omega) (by omega)⟩
            | some to =>
              obtain ⟨m', σ2, f1, f2, f3⟩ := i3 es to o (fun e he => hrt e (by simp [he])) (tl e p _ (hrt e (by simp)) hp he).2.1 h σ1 (num + nodes e) e2
              refine ⟨max m m' + 1, σ2, ?_, f2, e3.trans f3 (by omega) (by omega)⟩
              simp only [pk, pk_le e1 (Nat.le_max_left m m')]
              exact pk_le f1 (Nat.le_max_right m m')
      · rintro es p o hrt hp h σ num hσ
        cases es with
        | nil =>
          rw [evA_nil] at h
          injection h with h; subst h
          exact ⟨1, σ, rfl, hσ, Fresh.rfl'⟩
        | cons e es =>
          rw [evA_cons] at h
          cases he : ev g s n e p with
          | none => rw [he] at h; cases h
          | some u =>
            rw [he] at h
            obtain ⟨m, σ1, e1, e2, e3⟩ := (i1 e p u (hrt e (by simp)) hp he σ num hσ).try_
            cases u with
            | some to =>
              injection h with h; subst h
              exact ⟨m + 1, σ1, by simp only [pk, e1], e2, e3.trans (k := n + 1) (Fresh.rfl' (n := 0)) (by omega) (by omega)⟩
            | none =>
              obtain ⟨m', σ2, f1, f2, f3⟩ := i4 es p o (fun e he => hrt e (by simp [he])) hp h σ1 (num + nodes e) e2
              refine ⟨max m m' + 1, σ2, ?_, f2, e3.trans f3 (by omega) (by omega)⟩
              simp only [pk, pk_le e1 (Nat.le_max_left m m')]
              exact pk_le f1 (Nat.le_max_right m m')
      · rintro e p o hrt hp h σ num hσ
        rw [evR_s] at h
        cases he : ev g s n e p with
        | none => rw [he] at h; cases h
        | some u =>
          rw [he] at h
          obtain ⟨m, σ1, e1, e2, e3⟩ := (i1 e p u hrt hp he σ num hσ).try_
          cases u with
          | none =>
            injection h with h; subst h
            exact ⟨m + 1, σ1, by simp only [pk, e1], e2, e3.trans (k := n + 1) (Fresh.rfl' (n := 0)) (by omega) (by omega)⟩
          | some to =>
            obtain ⟨m', σ2, f1, f2, f3⟩ := i5 e to o hrt (tl e p _ hrt hp he).2.1 h σ1 num e2
            refine ⟨max m m' + 1, σ2, ?_, f2, e3.trans f3 (by omega) (by omega)⟩
            simp only [pk, pk_le e1 (Nat.le_max_left m m')]
            exact pk_le f1 (Nat.le_max_right m m')
end
end Go.Proofs.Ytndhbdbfjkmloaa
namespace Go.Proofs.Ytndhbdbfjkmloaa
open Go.RowKit

def bools (l : List Bool) : List Value := l.map Value.bool
theorem reads_bool {w : World} {B n i : Nat} {A : Option Addr} {l : List Bool} (h : Reads w B 1 A n (bools l)) (hi : i < n) : ∃ ad b, A = some ad ∧ ad.block < B ∧ l[i]? = some b ∧ w.cell? (ad.add i) = some (.bool b) := by
  obtain ⟨ad, u, e, hb, hx, hc⟩ := h.at_ hi
  simp only [bools, List.getElem?_map, Option.map_eq_some_iff] at hx
  obtain ⟨b, hs, rfl⟩ := hx
  exact ⟨ad, b, e, hb, hs, hc⟩

/-- what a call of well.sound leaves -/
def SoQ (x : Bool) (w : World) (e : Ending) (w' : World) : Prop := e = .returned (.bool x) ∧ Below w.heap.size w w'

set_option maxRecDepth 100000 in
set_option maxHeartbeats 8000000 in
theorem sound_any {g : List Rl} {fs : List Fa} {kn : List Bool} {A FA KA : Option Addr} {cp fcp kcp : Nat} {row : Nat → List Value} (hlen : fs.length = g.length) (hkn : kn.length = g.length) (e : Ex) : ∀ (cs : List Value) (w : World), GrIs w w.heap.size g A cp row → Reads w w.heap.size 3 FA fs.length (facs fs) →
    Reads w w.heap.size 1 KA kn.length (bools kn) → ExIs w w.heap.size e cs → Rt g e → Calls Try.prog 49 #[.agg #[.slice A g.length cp], .slice FA fs.length fcp, .slice KA kn.length kcp, .agg cs.toArray] w (SoQ (soundE g fs kn e) w) := by
  refine Ex.ind (P := fun e => ∀ (cs : List Value) (w : World), GrIs w w.heap.size g A cp row → Reads w w.heap.size 3 FA fs.length (facs fs) →
    Reads w w.heap.size 1 KA kn.length (bools kn) → ExIs w w.heap.size e cs → Rt g e → Calls Try.prog 49 #[.agg #[.slice A g.length cp], .slice FA fs.length fcp, .slice KA kn.length kcp, .agg cs.toArray] w (SoQ (soundE g fs kn e) w)) ?_ e
  intro k a b c d t ks ih cs w hG hF hN hE hR
  cases hR with
  | mk _ _ _ _ _ _ _ hfit hname hkids =>
  obtain ⟨ht, EA, ecp, rfl, hkc, hkm, _⟩ := hE.shape
  unfold exCells
  have hof := fun (j : Nat) (k' a' b' c' d' : Int) (t' : ByteArray) (ks' : List Ex) (A' : Option Addr) (cp' : Nat) (W : World) (hW : Below w.heap.size w W) (hj : ks[j]? = some (.mk k' a' b' c' d' t' ks'))
      (hE' : ExIs W w.heap.size (.mk k' a' b' c' d' t' ks') (exCells k' a' b' c' d' t' A' ks'.length cp')) =>
    of_any (fcp := fcp) hlen _ _ W ((hG.on hW).more hW.size) ((hF.below hW).more hW.size) (hE'.keep hW.size fun _ _ => rfl) (hkids _ (List.mem_of_getElem? hj))
  have hso := fun (j : Nat) (k' a' b' c' d' : Int) (t' : ByteArray) (ks' : List Ex) (A' : Option Addr) (cp' : Nat) (W : World) (hW : Below w.heap.size w W) (hj : ks[j]? = some (.mk k' a' b' c' d' t' ks'))
      (hE' : ExIs W w.heap.size (.mk k' a' b' c' d' t' ks') (exCells k' a' b' c' d' t' A' ks'.length cp')) =>
    ih _ (List.mem_of_getElem? hj) _ W ((hG.on hW).more hW.size) ((hF.below hW).more hW.size) ((hN.below hW).more hW.size) (hE'.keep hW.size fun _ _ => rfl) (hkids _ (List.mem_of_getElem? hj))
  unfold exCells at hof hso
  have HOF := Lib.hid hof
  have HSO := Lib.hid hso
  have HE := Lib.hid hE
  have HLEN := Lib.hid hlen
  have HKN := Lib.hid hkn
  have HG := Lib.hid hG
  have HN := Lib.hid hN
  have hfc := fit_cases hfit
  have h8 : ks.length ≤ 8 := by omega
  have hm8 : ks.length ≤ 9223372036854775807 := by omega
  have H8 := Lib.hid h8
  have hbox : Box2 A EA g.length cp ks.length ecp k a b c d t w ((w.alloc (.cells #[.slice A g.length cp] 35)).alloc (.cells #[.int .i64 k, .int .u64 a, .int .u64 b, .int .u64 c, .int .u64 d, .string t, .slice EA ks.length ecp] 27)) := ⟨(by repeat (first | exact Below.refl _ _ | assumption | refine Below.drew ?_ | refine below_drewN ?_ _ | refine Below.alloc ?_ (by first | omega | (simp; omega) | simp) _ | refine Below.setCell ?_ (by first | omega | (simp; omega) | simp) _)), (blk_at rfl).alloc _, blk_at (by simp)⟩
  clear hof hso ih hF hE hkids hfit hfc h8
  by_cases h4 : k = 4
  · subst h4
    have hz4 : ((4 : Int) == 4) = true := rfl
    obtain ⟨i, hi⟩ := Int.eq_ofNat_of_zero_le (hname rfl)
    have hil : i < kn.length := by have := (fndFrom_le g t.data.toList 0).2; rw [hkn]; unfold fnd at hi; omega
    have hfd := fun W (hW : Below w.heap.size w W) => find_any ((hG.on hW).more hW.size) t
    rw [hi] at hfd
    have HX : Hid (soundE g fs kn (.mk 4 a b c d t ks) = (kn.getD i false)) := by show _ = _; rw [soundE, if_pos rfl, hi]; rfl
    have HFD := Lib.hid hfd
    have HI := Lib.hid hi
    clear hfd hname hi hG hN hlen hkn HOF HSO
    have hi0 : (0 : Int) ≤ (i : Int) := by omega
    have hi1 : (i : Int) < (kn.length : Int) := by omega
    go_enter Try.func49, Try.ntmps49
    go_wp2_with fail
    refine (HFD.out _ hbox.bel).mono ?_
    rintro e w1 ⟨rfl, hb1⟩
    have hw1 := hbox.step hb1 (Nat.le_refl _)
    have hbel := hw1.bel
    obtain ⟨ad, b0, rfl, hab, hb0, hc0⟩ := reads_bool (HN.out.below hbel) hil
    have HXX : Hid (soundE g fs kn (.mk 4 a b c d t ks) = b0) := by show _ = _; rw [HX.out, List.getD_eq_getElem?_getD, hb0]; rfl
    clear hb1 hbox hb0
    go_wp2
    go_ret
    exact ⟨ret_bool HXX.out.symm, hbel⟩
  have hz4 : (k == 4) = false := by rw [beq_eq_false_iff_ne]; exact h4
  clear hname hG hN hlen hkn
  by_cases h5 : k = 5
  · have hz5 : (k == 5) = true := by rw [beq_iff_eq]; exact h5
    have HX : Hid (soundS g fs kn (ks.drop 0) = soundE g fs kn (.mk k a b c d t ks)) := by show _ = _; rw [soundE, if_neg h4, if_pos h5]; rfl
    clear h4 h5
    go_enter Try.func49, Try.ntmps49
    go_wp2
    go_loopw [10, 29] (fun _ i wr => ∃ j : Nat, j ≤ ks.length ∧ i = .int .i64 j ∧ Hid (soundS g fs kn (ks.drop j) = soundE g fs kn (.mk k a b c d t ks)) ∧ Box2 A EA g.length cp ks.length ecp k a b c d t w wr) (fun _ i _ => ks.length - (intOf i).toNat)
    case atStart => exact ⟨0, by omega, rfl, HX, hbox⟩
    case round =>
      clear HX hbox
      obtain ⟨j, hj, rfl, HR, hwr⟩ := hrel
      have hbel := hwr.bel
      have hz := hbel.size
      have q0 : wr.cell? ⟨w.heap.size, 0, none⟩ = some (.slice A g.length cp) := hwr.x3.cell 0
      have hl3 := hwr.x3.lt
      by_cases hjk : j < ks.length
      · obtain ⟨ad, k', a', b', c', d', t', ks', A', cp', rfl, hab, hej, hE', ⟨e0, e1, e2, e3, e4, e5, e6⟩⟩ := (HE.out.on hbel).kid hjk
        have hcall := fun W (hW : Below w.heap.size wr W) => HSO.out j k' a' b' c' d' t' ks' A' cp' W (hbel.trans hW) hej (hE'.on hW)
        have hcall2 := fun W (hW : Below w.heap.size wr W) => HOF.out j k' a' b' c' d' t' ks' A' cp' W (hbel.trans hW) hej (hE'.on hW)
        have HC := Lib.hid hcall
        have HC2 := Lib.hid hcall2
        have HD := Lib.hid (drop_of hej)
        have HRS : Hid (soundS g fs kn (ks.drop j) = if soundE g fs kn (.mk k' a' b' c' d' t' ks') = false then false else if (ofE g fs (.mk k' a' b' c' d' t' ks')).e = false then true else soundS g fs kn (ks.drop (j + 1))) := by show _ = _; rw [HD.out, soundS]
        generalize soundE g fs kn (.mk k' a' b' c' d' t' ks') = z at HC HRS
        generalize ofE g fs (.mk k' a' b' c' d' t' ks') = x at HC2 HRS
        clear hcall hcall2 hej hE'
        go_wp2_with fail
        refine (HC.out _ (by repeat (first | exact Below.refl _ _ | assumption | refine Below.drew ?_ | refine below_drewN ?_ _ | refine Below.alloc ?_ (by first | omega | (simp; omega) | simp) _ | refine Below.setCell ?_ (by first | omega | (simp; omega) | simp) _))).mono ?_
        rintro e w2 ⟨rfl, hb2⟩
        have hw2 := (hwr.alloc _).step hb2 (Nat.le_refl _)
        have hbel2 := hw2.bel
        have hr2 : Below w.heap.size wr w2 := Below.trans (by repeat (first | exact Below.refl _ _ | assumption | refine Below.drew ?_ | refine below_drewN ?_ _ | refine Below.alloc ?_ (by first | omega | (simp; omega) | simp) _ | refine Below.setCell ?_ (by first | omega | (simp; omega) | simp) _)) (hb2.mono (by first | omega | (simp; omega) | simp))
        have hbx : Blk w2 wr.heap.size 27 #[.int .i64 k', .int .u64 a', .int .u64 b', .int .u64 c', .int .u64 d', .string t', .slice A' ks'.length cp'] := (blk_at rfl).below hb2 (by simp)
        have q2 : w2.cell? ⟨w.heap.size, 0, none⟩ = some (.slice A g.length cp) := hw2.x3.cell 0
        have x0 : w2.cell? ⟨wr.heap.size, 0, none⟩ = some (.int .i64 k') := hbx.cell 0; have x1 : w2.cell? ⟨wr.heap.size, 1, none⟩ = some (.int .u64 a') := hbx.cell 1; have x2 : w2.cell? ⟨wr.heap.size, 2, none⟩ = some (.int .u64 b') := hbx.cell 2; have x3 : w2.cell? ⟨wr.heap.size, 3, none⟩ = some (.int .u64 c') := hbx.cell 3; have x4 : w2.cell? ⟨wr.heap.size, 4, none⟩ = some (.int .u64 d') := hbx.cell 4; have x5 : w2.cell? ⟨wr.heap.size, 5, none⟩ = some (.string t') := hbx.cell 5; have x6 : w2.cell? ⟨wr.heap.size, 6, none⟩ = some (.slice A' ks'.length cp') := hbx.cell 6
        clear hb2 hwr
        cases z
        · have HNN : Hid (soundE g fs kn (.mk k a b c d t ks) = false) := by show _ = _; rw [← HR.out, HRS.out, if_pos rfl]
          clear HRS
          go_wp2
          go_ret
          exact ⟨ret_bool HNN.out.symm, hbel2⟩
        · have hfe := run_empty x.e x.a x.f
          go_wp2_with fail
          refine (HC2.out _ hr2).mono ?_
          rintro e w3 ⟨rfl, hb3⟩
          have hw3 := hw2.step hb3 (Nat.le_refl _)
          have hbel3 := hw3.bel
          clear hb3 hw2 hbx x0 x1 x2 x3 x4 x5 x6 q2
          cases hxe : x.e
          · have HNN : Hid (soundE g fs kn (.mk k a b c d t ks) = true) := by show _ = _; rw [← HR.out, HRS.out, if_neg (by decide), if_pos hxe]
            rw [hxe] at hfe
            clear HRS hxe
            go_wp2
            go_ret
            exact ⟨ret_bool HNN.out.symm, hbel3⟩
          · have HNN : Hid (soundS g fs kn (ks.drop (j + 1)) = soundE g fs kn (.mk k a b c d t ks)) := by show _ = _; rw [← HR.out, HRS.out, if_neg (by decide), if_neg (by rw [hxe]; decide)]
            rw [hxe] at hfe
            clear HRS hxe
            go_wp2
            go_roundw
            case rel => exact ⟨j + 1, by omega, by go_num, HNN, hw3⟩
            case measure => simp [intOf]; omega
      · obtain rfl : j = ks.length := by omega
        have HNN : Hid (soundE g fs kn (.mk k a b c d t ks) = true) := by show _ = _; rw [← HR.out, List.drop_length, soundS]
        go_wp2
        go_ret
        exact ⟨ret_bool HNN.out.symm, hbel⟩
  have hz5 : (k == 5) = false := by rw [beq_eq_false_iff_ne]; exact h5
  have HX : Hid (soundA g fs kn (ks.drop 0) = soundE g fs kn (.mk k a b c d t ks)) := by show _ = _; rw [soundE, if_neg h4, if_neg h5]; rfl
  clear h4 h5 HOF
  go_enter Try.func49, Try.ntmps49
  go_wp2
  go_loopw [12, 49] (fun _ i wr => ∃ j : Nat, j ≤ ks.length ∧ i = .int .i64 j ∧ Hid (soundA g fs kn (ks.drop j) = soundE g fs kn (.mk k a b c d t ks)) ∧ Box2 A EA g.length cp ks.length ecp k a b c d t w wr) (fun _ i _ => ks.length - (intOf i).toNat)
  case atStart => exact ⟨0, by omega, rfl, HX, hbox⟩
  case round =>
    clear HX hbox
    obtain ⟨j, hj, rfl, HR, hwr⟩ := hrel
    have hbel := hwr.bel
    have hz := hbel.size
    have q0 : wr.cell? ⟨w.heap.size, 0, none⟩ = some (.slice A g.length cp) := hwr.x3.cell 0
    have hl3 := hwr.x3.lt
    by_cases hjk : j < ks.length
    · obtain ⟨ad, k', a', b', c', d', t', ks', A', cp', rfl, hab, hej, hE', ⟨e0, e1, e2, e3, e4, e5, e6⟩⟩ := (HE.out.on hbel).kid hjk
      have hcall := fun W (hW : Below w.heap.size wr W) => HSO.out j k' a' b' c' d' t' ks' A' cp' W (hbel.trans hW) hej (hE'.on hW)
      have HC := Lib.hid hcall
      have HD := Lib.hid (drop_of hej)
      have HRS : Hid (soundA g fs kn (ks.drop j) = if soundE g fs kn (.mk k' a' b' c' d' t' ks') = false then false else soundA g fs kn (ks.drop (j + 1))) := by show _ = _; rw [HD.out, soundA]
      generalize soundE g fs kn (.mk k' a' b' c' d' t' ks') = z at HC HRS
      clear hcall hej hE'
      go_wp2_with fail
      refine (HC.out _ (by repeat (first | exact Below.refl _ _ | assumption | refine Below.drew ?_ | refine below_drewN ?_ _ | refine Below.alloc ?_ (by first | omega | (simp; omega) | simp) _ | refine Below.setCell ?_ (by first | omega | (simp; omega) | simp) _))).mono ?_
      rintro e w2 ⟨rfl, hb2⟩
      have hw2 := (hwr.alloc _).step hb2 (Nat.le_refl _)
      have hbel2 := hw2.bel
      clear hb2 hwr
      cases z
      · have HNN : Hid (soundE g fs kn (.mk k a b c d t ks) = false) := by show _ = _; rw [← HR.out, HRS.out, if_pos rfl]
        clear HRS
        go_wp2
        go_ret
        exact ⟨ret_bool HNN.out.symm, hbel2⟩
      · have HNN : Hid (soundA g fs kn (ks.drop (j + 1)) = soundE g fs kn (.mk k a b c d t ks)) := by show _ = _; rw [← HR.out, HRS.out, if_neg (by decide)]
        clear HRS
        go_wp2
        go_roundw
        case rel => exact ⟨j + 1, by omega, by go_num, HNN, hw2⟩
        case measure => simp [intOf]; omega
    · obtain rfl : j = ks.length := by omega
      have HNN : Hid (soundE g fs kn (.mk k a b c d t ks) = true) := by show _ = _; rw [← HR.out, List.drop_length, soundA]
      go_wp2
      go_ret
      exact ⟨ret_bool HNN.out.symm, hbel⟩
end Go.Proofs.Ytndhbdbfjkmloaa
namespace Go.Proofs.Ytndhbdbfjkmloaa
open Go.RowKit

set_option maxRecDepth 100000 in
set_option maxHeartbeats 4000000 in
theorem wel1_any {g : List Rl} {A FA : Option Addr} {cp fcp : Nat} {row : Nat → List Value} {fs : List Fa} {kn : List Bool} {KA : Option Addr} {kcp gb fb i : Nat} {W : World} (hlen : fs.length = g.length) (hkn : kn.length = g.length) (hG : GrIs W W.heap.size g A cp row) (hF : Reads W W.heap.size 3 FA fs.length (facs fs))
    (hN : Reads W W.heap.size 1 KA kn.length (bools kn)) (hgb : Blk W gb 35 #[.slice A g.length cp]) (hfb : Blk W fb 112 #[.slice FA fs.length fcp]) (hR : ∀ r ∈ g, Rt g r.2) (hi : i < g.length) :
    Calls Try.prog 48 #[.slice KA kn.length kcp, .int .i64 i, .pointer (some ⟨gb, 0, none⟩), .pointer (some ⟨fb, 0, none⟩)] W (SoQ (nxB g fs kn i) W) := by
  have hm := hG.cap
  have hle := hG.le
  unfold maxLen at hm
  obtain ⟨ad, nm, k', a', b', c', d', t', ks', A', cp', rfl, hab, hej, hnm, hE, hS⟩ := hG.rule hi
  have hx : nxB g fs kn i = soundE g fs kn (.mk k' a' b' c' d' t' ks') := by unfold nxB; rw [hej]
  have hcall := fun (W' : World) (h : Below W.heap.size W W') => sound_any (fcp := fcp) (kcp := kcp) hlen hkn _ _ W' ((hG.on h).more h.size) ((hF.below h).more h.size) ((hN.below h).more h.size) ((hE.on h).keep h.size fun _ _ => rfl) (hR _ (List.mem_of_getElem? hej))
  unfold exCells at hcall
  rw [hx]
  generalize soundE g fs kn (.mk k' a' b' c' d' t' ks') = x at hcall
  have HC := Lib.hid hcall
  have gl := hgb.lt
  have fl := hfb.lt
  have hcc : ∀ W', Below W.heap.size W W' →
      W'.cell? ⟨gb, 0, none⟩ = some (.slice (some ad) g.length cp) ∧ W'.cell? ⟨fb, 0, none⟩ = some (.slice FA fs.length fcp) ∧ Eight W' (ad.add (i * 8)) nm k' a' b' c' d' t' A' ks'.length cp' := fun W' hW' =>
    have hk := fun (q : Addr) (hq : q.block = (ad.add (i * 8)).block) => hW'.cell (p := q) (by rw [hq, add_block]; omega)
    ⟨(hgb.below hW' gl).cell 0, (hfb.below hW' fl).cell 0, (hk _ rfl).trans hS.c0, (hk ⟨_, _, none⟩ rfl).trans hS.c1, (hk ⟨_, _, none⟩ rfl).trans hS.c2, (hk ⟨_, _, none⟩ rfl).trans hS.c3, (hk ⟨_, _, none⟩ rfl).trans hS.c4, (hk ⟨_, _, none⟩ rfl).trans hS.c5, (hk ⟨_, _, none⟩ rfl).trans hS.c6, (hk ⟨_, _, none⟩ rfl).trans hS.c7⟩
  have HCC := Lib.hid hcc
  have HLEN := Lib.hid hlen
  have HKN := Lib.hid hkn
  clear hcc hS hgb hfb hcall hE hej hx hF hG hR hlen hkn hN hnm
  go_enter Try.func48, Try.ntmps48
  go_wp2_with fail
  refine wp_region_q (Below W.heap.size W) (by kernel_rfl) (by kernel_rfl) (Below.drew (Below.refl _ _)) ?_
  repeat
    (first | ((with_reducible apply QW.free rfl); · (intro W hW; obtain ⟨q1, q2, ⟨s0, s1, s2, s3, s4, s5, s6, s7⟩⟩ := HCC.out W hW; go_simp; first | rfl | (go_at_call 49; refine (HC.out _ hW).mono ?_; exact fun e w' h => ⟨h.1, hW.trans (h.2.mono hW.size)⟩))) | ((with_reducible apply QW.skip rfl); · (first | exact ⟨_, _, rfl, rfl, .inl rfl⟩ | exact ⟨_, _, rfl, rfl, .inr rfl⟩)) | ((with_reducible apply QW.take rfl); (· exact ⟨_, rfl, rfl⟩); (· (intro W hW; obtain ⟨q1, q2, ⟨s0, s1, s2, s3, s4, s5, s6, s7⟩⟩ := HCC.out W hW; go_simp; first | rfl | (go_at_call 49; refine (HC.out _ hW).mono ?_; exact fun e w' h => ⟨h.1, hW.trans (h.2.mono hW.size)⟩))))); (try simp only [Act.put, List.setIfInBounds_toArray, List.set_cons_zero, List.set_cons_succ])
  refine QW.nil ?_
  intro w1 hw1
  go_wp2
  go_ret
  exact ⟨rfl, hw1⟩

/-- bools in a block of their own -/
def BoB (w : World) (b : Nat) (kn : List Bool) : Prop := Blk w b 4 (bools kn).toArray
theorem BoB.reads {w : World} {b B : Nat} {kn : List Bool} (h : BoB w b kn) (hb : b < B) : Reads w B 1 (some ⟨b, 0, none⟩) kn.length (bools kn) :=
  ⟨by simp [bools], fun _ => ⟨_, rfl, hb, World.news_of_block h⟩⟩
theorem BoB.cell {w : World} {b i : Nat} {kn : List Bool} {x : Bool} (h : BoB w b kn) (hx : kn[i]? = some x) : w.cell? ⟨b, i, none⟩ = some (.bool x) := by
  refine (Blk.cell h i).trans ?_
  rw [List.getElem?_toArray, bools, List.getElem?_map, hx]
  rfl
theorem BoB.put {w : World} {b : Nat} {kn : List Bool} (h : BoB w b kn) (i : Nat) (x : Bool) : BoB (w.setCell ⟨b, i, none⟩ (.bool x)) b (kn.set i x) := by
  have h1 := Blk.set_ h i (.bool x)
  unfold BoB
  have e : ((bools kn).toArray.setIfInBounds i (.bool x)) = (bools (kn.set i x)).toArray := by simp [bools, List.map_set]
  rw [← e]
  exact h1
theorem info_bool : (Try.prog.info? 4).map (fun i => (i.zero, i.size, i.bytes)) = some (some (.bool false), 1, 1) := by kernel_rfl
theorem made_bools (n : Nat) : madeCells (Value.bool false).cells (n * 1) = (bools (List.replicate n false)).toArray := by
  apply Array.ext
  · simp [size_madeCells, bools]
  · intro i h1 h2
    simp [madeCells, Value.cells, bools, Nat.mod_one]

theorem sound_mono {g : List Rl} {fs : List Fa} {l m : List Bool} (h : LeL boOrd l m) (e : Ex) : soundE g fs l e = true → soundE g fs m e = true := by
  refine Ex.ind (P := fun e => soundE g fs l e = true → soundE g fs m e = true) ?_ e
  intro k a b c d t ks ih hs
  rw [soundE] at hs ⊢
  by_cases k4 : k = 4
  · rw [if_pos k4] at hs ⊢
    have hl := h.1
    rw [List.getD_eq_getElem?_getD] at hs ⊢
    cases hx : l[(fnd g t.data.toList).toNat]? with
    | none => rw [hx] at hs; cases hs
    | some x =>
      rw [hx] at hs
      have hlt := getElem?_lt hx
      have hy : m[(fnd g t.data.toList).toNat]? = some (m[(fnd g t.data.toList).toNat]'(by omega)) := List.getElem?_eq_getElem (by omega)
      rw [hy]
      exact h.2 _ _ _ hx hy hs
  rw [if_neg k4] at hs ⊢
  by_cases k5 : k = 5
  · rw [if_pos k5] at hs ⊢
    have : ∀ es : List Ex, (∀ e ∈ es, e ∈ ks) → soundS g fs l es = true → soundS g fs m es = true := by
      intro es
      induction es with
      | nil => intro _ h; exact h
      | cons e es ihe =>
        intro hm hse
        rw [soundS] at hse ⊢
        split at hse
        · cases hse
        rename_i h1
        rw [if_neg (by rw [ih e (hm e (by simp)) (by simpa using h1)]; decide)]
        split
        · rfl
        · rename_i h2
          rw [if_neg h2] at hse
          exact ihe (fun e he => hm e (by simp [he])) hse
    exact this ks (fun e he => he) hs
  rw [if_neg k5] at hs ⊢
  have : ∀ es : List Ex, (∀ e ∈ es, e ∈ ks) → soundA g fs l es = true → soundA g fs m es = true := by
    intro es
    induction es with
    | nil => intro _ h; exact h
    | cons e es ihe =>
      intro hm hse
      rw [soundA] at hse ⊢
      split at hse
      · cases hse
      rename_i h1
      rw [if_neg (by rw [ih e (hm e (by simp)) (by simpa using h1)]; decide)]
      exact ihe (fun e he => hm e (by simp [he])) hse
  exact this ks (fun e he => he) hs
theorem nxB_mono (g : List Rl) (fs : List Fa) (n : Nat) : Mono boOrd (nxB g fs) n := by
  intro l m _ h i
  unfold nxB
  split
  · exact sound_mono h _
  · exact boOrd.refl _
theorem low_zeroB (g : List Rl) (fs : List Fa) : Low boOrd (nxB g fs) (List.replicate g.length false) := by
  intro i x hx
  rw [List.getElem?_replicate] at hx
  split at hx
  · injection hx with hx
    subst hx
    exact fun h => by cases h
  · cases hx

set_option maxRecDepth 100000 in
set_option maxHeartbeats 4000000 in
theorem growB_any {g : List Rl} {A FA : Option Addr} {cp fcp : Nat} {row : Nat → List Value} {fs : List Fa} {w : World} {gb fb : Nat} (hlen : fs.length = g.length) (h : GrIs w w.heap.size g A cp row) (hF : Reads w w.heap.size 3 FA fs.length (facs fs)) (hgb : Blk w gb 35 #[.slice A g.length cp]) (hfb : Blk w fb 112 #[.slice FA fs.length fcp]) (hR : ∀ r ∈ g, Rt g r.2) (h10 : g.length ≤ 10) :
    Calls Try.prog 47 #[.int .i64 g.length, .func (.func 48) #[] #[.pointer (some ⟨gb, 0, none⟩), .pointer (some ⟨fb, 0, none⟩)]] w fun e w' => e = .returned (.slice (some ⟨w.heap.size, 0, none⟩) g.length g.length) ∧ BoB w' w.heap.size (knownG g fs) ∧ Below w.heap.size w w' := by
  obtain ⟨i0, hi, hz0, hz1, hz2⟩ := info_parts info_bool
  have hmk := made_run Try.underlying115 hi hz0 .i64 .i64 (n := g.length) (c := g.length) (Nat.le_refl _) (by rw [hz2]; omega) (by omega)
  rw [hz1, made_bools] at hmk
  have hgl := hgb.lt
  have hfl := hfb.lt
  have hnx : ∀ (W : World) (kn : List Bool) (i : Nat), kn.length = g.length → Below w.heap.size w W → BoB W w.heap.size kn → i < g.length →
      Calls Try.prog 48 #[.slice (some ⟨w.heap.size, 0, none⟩) g.length g.length, .int .i64 i, .pointer (some ⟨gb, 0, none⟩), .pointer (some ⟨fb, 0, none⟩)] W (SoQ (nxB g fs kn i) W) := by
    intro W kn i hkl hW hb hi
    have := wel1_any (kcp := g.length) hlen hkl ((h.on hW).more hW.size) ((hF.below hW).more hW.size) (hb.reads (B := W.heap.size) (Blk.lt hb)) (hgb.below hW hgl) (hfb.below hW hfl) hR hi
    rw [hkl] at this
    exact this
  have HNX := Lib.hid hnx
  have hn0 : (List.replicate g.length false).length = g.length := by simp
  have hlow := low_zeroB g fs
  have HRES : Hid (knownG g fs = growG (nxB g fs) (wtL boOrd (List.replicate g.length false) + 1) (List.replicate g.length false)) := by exact rfl
  generalize (List.replicate g.length false) = k0 at hmk hn0 hlow HRES
  have HN0 := Lib.hid hn0
  have HLOW := Lib.hid hlow
  generalize knownG g fs = res at HRES ⊢
  clear h hgb hfb hR hnx hn0 hlow hz0 hz1 hz2 hi hF hlen
  go_enter Try.func47, Try.ntmps47
  go_wp2
  go_loopg [6] (wtL boOrd k0 + 1) (fun n s6 wr => ∃ (kn : List Bool) (m : Bool), s6 = .bool m ∧ Hid (kn.length = g.length) ∧ Hid (Low boOrd (nxB g fs) kn) ∧ Hid (m = true → wtL boOrd kn < n ∧ growG (nxB g fs) n kn = res) ∧ Hid (m = false → kn = res) ∧ BoB wr w.heap.size kn ∧ Below w.heap.size w wr)
  case atStart => exact ⟨k0, true, rfl, HN0, HLOW, fun _ => ⟨by omega, HRES.out.symm⟩, (fun h => by cases h), blk_at rfl, (by repeat (first | exact Below.refl _ _ | assumption | refine Below.drew ?_ | refine below_drewN ?_ _ | refine Below.alloc ?_ (by first | omega | (simp; omega) | simp) _ | refine Below.setCell ?_ (by first | omega | (simp; omega) | simp) _))⟩
  case round =>
    obtain ⟨kn, m, rfl, HL, HLO, HT, HFa, hfb, hwr⟩ := hrel
    cases m
    · obtain rfl : kn = res := HFa.out rfl
      go_wp2
      go_ret
      exact ⟨rfl, hfb, hwr⟩
    · obtain ⟨hlt, hgr⟩ := HT.out rfl
      obtain ⟨f, rfl⟩ : ∃ f, gk = f + 1 := ⟨gk - 1, by omega⟩
      have hr0 : Hid (roundG (nxB g fs) (g.length - 0) 0 kn false = roundG (nxB g fs) kn.length 0 kn false) := by show _ = _; rw [HL.out, Nat.sub_zero]
      have HGR : Hid ((if (roundG (nxB g fs) kn.length 0 kn false).2 = true then growG (nxB g fs) f (roundG (nxB g fs) kn.length 0 kn false).1 else (roundG (nxB g fs) kn.length 0 kn false).1) = res) := by
        show _ = _
        rw [← hgr, growG]
      have hk := round_keeps (nx := nxB g fs) (P := fun l => l.length = g.length ∧ Low boOrd (nxB g fs) l) (fun l i h hi hne => ⟨by simp; exact h.1, (low_step (by rw [h.1]; exact nxB_mono g fs _) h.2 hi hne).1⟩) kn.length 0 kn false (by omega) ⟨HL.out, HLO.out⟩
      have hw := round_wt (nxB_mono g fs g.length) kn.length 0 kn false HL.out (by rw [HL.out]; omega) HLO.out
      generalize roundG (nxB g fs) kn.length 0 kn false = r at hr0 HGR hk hw
      have HK := Lib.hid hk
      have HW := Lib.hid hw
      have HLT := Lib.hid hlt
      clear HT HFa hgr hk hw hlt HLO
      go_wp2
      go_loopw [6, 14] (fun s6 i wr => ∃ (j : Nat) (kn' : List Bool) (m' : Bool), j ≤ g.length ∧ i = .int .i64 j ∧ s6 = .bool m' ∧ Hid (roundG (nxB g fs) (g.length - j) j kn' m' = r) ∧ Hid (kn'.length = g.length) ∧ BoB wr w.heap.size kn' ∧ Below w.heap.size w wr) (fun _ i _ => g.length - (intOf i).toNat)
      case atStart => exact ⟨0, kn, false, by omega, rfl, rfl, hr0, HL, hfb, hwr⟩
      case round =>
        clear hfb hwr hr0 HL
        obtain ⟨j, kn', m', hj, rfl, rfl, HR, HL, hfb, hwr⟩ := hrel
        by_cases hjn : j < g.length
        · have hcall := HNX.out wr kn' j HL.out hwr hfb hjn
          have hy : kn'[j]? = some (kn'[j]'(by rw [HL.out]; exact hjn)) := List.getElem?_eq_getElem _
          generalize kn'[j]'(by rw [HL.out]; exact hjn) = y at hy
          have HRS : Hid (roundG (nxB g fs) (g.length - j) j kn' m' = if nxB g fs kn' j = y then roundG (nxB g fs) (g.length - (j + 1)) (j + 1) kn' m' else roundG (nxB g fs) (g.length - (j + 1)) (j + 1) (kn'.set j (nxB g fs kn' j)) true) := by
            show _ = _
            rw [show g.length - j = (g.length - (j + 1)) + 1 by omega, roundG, hy]
            by_cases h : nxB g fs kn' j = y
            · rw [if_pos h, if_pos (by rw [h])]
            · rw [if_neg h, if_neg (fun e => h (by injection e with e; exact e.symm))]
          generalize nxB g fs kn' j = x at hcall HRS
          have HY := Lib.hid hy
          have HC := Lib.hid hcall
          have hadr := addr0 w.heap.size j
          have hbl := Blk.lt hfb
          clear hy hcall
          go_wp2_with fail
          refine HC.out.mono ?_
          rintro e w1 ⟨rfl, hb1⟩
          have hf1 : BoB w1 w.heap.size kn' := Blk.below hfb hb1 hbl
          have hw1 : Below w.heap.size wr w1 := Below.trans (by repeat (first | exact Below.refl _ _ | assumption | refine Below.drew ?_ | refine below_drewN ?_ _ | refine Below.alloc ?_ (by first | omega | (simp; omega) | simp) _ | refine Below.setCell ?_ (by first | omega | (simp; omega) | simp) _)) (hb1.mono (by first | omega | (simp; omega) | simp)); have hzw1 := hw1.size
          have hww : Below w.heap.size w w1 := hwr.trans hw1
          have hc0 := hf1.cell HY.out
          have hfz := Blk.frozen hf1 j
          clear hb1
          by_cases hxy : x = y
          · have HN : Hid (roundG (nxB g fs) (g.length - (j + 1)) (j + 1) kn' m' = r) := by
              show _ = _
              rw [← HR.out, HRS.out, if_pos hxy]
            subst hxy
            clear HRS HC
            cases x
            all_goals
              go_wp2
              go_roundw
              case rel => exact ⟨j + 1, kn', m', by omega, by go_num, rfl, HN, HL, hf1, hww⟩
              case measure => simp [intOf]; omega
          · have HN : Hid (roundG (nxB g fs) (g.length - (j + 1)) (j + 1) (kn'.set j x) true = r) := by
              show _ = _
              rw [← HR.out, HRS.out, if_neg hxy]
            have hf4 := hf1.put j x
            have hw4 : Below w.heap.size w (w1.setCell ⟨w.heap.size, j, none⟩ (.bool x)) := hww.setCell (Nat.le_refl _) _
            have HLL : Hid ((kn'.set j x).length = g.length) := by show _ = _; rw [List.length_set]; exact HL.out
            clear HRS HC
            cases x <;> cases y <;> first | exact absurd rfl hxy | skip
            all_goals
              clear hxy
              go_wp2
              go_roundw
              case rel => exact ⟨j + 1, _, true, by omega, by go_num, rfl, HN, HLL, hf4, hw4⟩
              case measure => simp [intOf]; omega
        · obtain rfl : j = g.length := by omega
          obtain rfl : r = (kn', m') := by rw [← HR.out, Nat.sub_self, roundG]
          have hlow := HK.out.1.2
          have hwt := HW.out
          have hlt := HLT.out
          have HLO : Hid (Low boOrd (nxB g fs) kn') := hlow
          have HT : Hid (m' = true → wtL boOrd kn' < f ∧ growG (nxB g fs) f kn' = res) := by
            intro hm
            refine ⟨?_, ?_⟩
            · rcases hwt.2 hm with h | h
              · cases h
              · have : wtL boOrd kn' < wtL boOrd kn := h
                omega
            · have := HGR.out
              rw [if_pos hm] at this
              exact this
          have HFa : Hid (m' = false → kn' = res) := by
            intro hm
            have := HGR.out
            rw [if_neg (by simp [hm])] at this
            exact this
          clear hlow hwt hlt HR
          go_wp2
          go_roundg f
          case rel => exact ⟨kn', m', rfl, HL, HLO, HT, HFa, hfb, hwr⟩
          case measure => omega

/-- the boxes of well.Well -/
structure WellB (A : Option Addr) (cp : Nat) (g : List Rl) (fs : List Fa) (fb xb : Nat) (w W : World) : Prop where
  bel : Below w.heap.size w W
  gb : Blk W w.heap.size 35 #[.slice A g.length cp]
  xb : Blk W xb 112 #[.slice (some ⟨fb, 0, none⟩) g.length g.length]
  fac : FacB W fb fs
theorem WellB.step {A : Option Addr} {cp : Nat} {g : List Rl} {fs : List Fa} {fb xb : Nat} {w W W' : World} (h : WellB A cp g fs fb xb w W) {B : Nat} (hb : Below B W W') (hB : W.heap.size ≤ B) : WellB A cp g fs fb xb w W' :=
  have hb' := hb.mono hB
  ⟨h.bel.trans (hb'.mono h.bel.size), h.gb.below hb' h.gb.lt, h.xb.below hb' h.xb.lt, Blk.below h.fac hb' (Blk.lt h.fac)⟩
theorem WellB.alloc {A : Option Addr} {cp : Nat} {g : List Rl} {fs : List Fa} {fb xb : Nat} {w W : World} (h : WellB A cp g fs fb xb w W) (o : Obj) : WellB A cp g fs fb xb w (W.alloc o) := h.step ((Below.refl _ _).alloc (Nat.le_refl _) o) (Nat.le_refl _)

/-- what well.Well leaves -/
def WellQ (g : List Rl) (w : World) (e : Ending) (w' : World) : Prop := e = .returned (.tuple #[.int .i64 (wellG g).1, .int .i64 (wellG g).2]) ∧ Below w.heap.size w w'

set_option maxRecDepth 100000 in
set_option maxHeartbeats 4000000 in
theorem well_any {g : List Rl} {A : Option Addr} {cp : Nat} {row : Nat → List Value} {w : World} (h : GrIs w w.heap.size g A cp row) : Calls Try.prog 33 #[.agg #[.slice A g.length cp]] w (WellQ g w) := by
  have hck := fun W (hW : Below w.heap.size w W) => gcheck_any ((h.on hW).more hW.size)
  have HCK := Lib.hid hck
  have HG := Lib.hid h
  have hbg : Blk (w.alloc (.cells #[.slice A g.length cp] 35)) w.heap.size 35 #[.slice A g.length cp] := blk_at rfl
  clear hck h
  by_cases h0 : checkG g = 0
  · have R := right_of h0
    have h10 := R.ten
    have hm8 : g.length ≤ 9223372036854775807 := by omega
    have HR := Lib.hid R.rt
    have HW0 : Hid (wellG g = match badLoop g (factsG g) g 0 with
      | some i => (i, 9)
      | none => match badLeft (knownG g (factsG g)) 0 with
        | some i => (i, 8)
        | none => (0, 0)) := if_neg (by simp [h0])
    rw [h0] at HCK
    have HFL := Lib.hid (facts_len g)
    clear h0 R
    go_enter Try.func33, Try.ntmps33
    go_wp2_with fail
    refine (HCK.out _ (by repeat (first | exact Below.refl _ _ | assumption | refine Below.drew ?_ | refine below_drewN ?_ _ | refine Below.alloc ?_ (by first | omega | (simp; omega) | simp) _ | refine Below.setCell ?_ (by first | omega | (simp; omega) | simp) _))).mono ?_
    rintro e w1 ⟨rfl, hb1⟩
    have hbg1 := hbg.below hb1 hbg.lt
    have hw1 : Below w.heap.size w w1 := ((Below.refl _ w).alloc (Nat.le_refl _) _).trans (hb1.mono (by simp))
    have g1 : w1.cell? ⟨w.heap.size, 0, none⟩ = some (.slice A g.length cp) := hbg1.cell 0
    clear hb1 hbg
    go_wp2_with fail
    refine (facts_any ((HG.out.on hw1).more hw1.size) HR.out h10).mono ?_
    rintro e w2 ⟨fb, rfl, hfb, hfl, hb2⟩
    have hB : WellB A cp g (factsG g) fb w2.heap.size w (w2.alloc (.cells #[.slice (some ⟨fb, 0, none⟩) g.length g.length] 112)) :=
      ⟨(hw1.trans (hb2.mono hw1.size)).alloc (by have := hb2.size; have := hw1.size; omega) _, (hbg1.below hb2 hbg1.lt).alloc _, blk_at rfl, Blk.alloc hfb _⟩
    have q0 : (w2.alloc (.cells #[.slice (some ⟨fb, 0, none⟩) g.length g.length] 112)).cell? ⟨w.heap.size, 0, none⟩ = some (.slice A g.length cp) := hB.gb.cell 0
    have hxl : w.heap.size < w2.heap.size := by have := hB.gb.lt; have := hbg1.lt; have := hb2.size; omega
    have HL0 : Hid (badLoop g (factsG g) (g.drop 0) 0 = badLoop g (factsG g) g 0) := rfl
    generalize factsG g = fs at HW0 HFL hB HL0
    clear hfb hfl hb2 hbg1 hw1 g1
    go_wp2
    go_loopw [6, 7, 21] (fun _ _ i wr => ∃ j : Nat, j ≤ g.length ∧ i = .int .i64 j ∧ Hid (badLoop g fs (g.drop j) j = badLoop g fs g 0) ∧ WellB A cp g fs fb w2.heap.size w wr) (fun _ _ i _ => g.length - (intOf i).toNat)
    case atStart => exact ⟨0, by omega, rfl, HL0, hB⟩
    case round =>
      clear hB q0 HL0
      obtain ⟨j, hj, rfl, HJ, hwr⟩ := hrel
      have hbel := hwr.bel
      have hz := hbel.size
      have hgl := hwr.gb.lt
      have hxl2 := hwr.xb.lt
      have q0 : wr.cell? ⟨w.heap.size, 0, none⟩ = some (.slice A g.length cp) := hwr.gb.cell 0
      have q1 : wr.cell? ⟨w2.heap.size, 0, none⟩ = some (.slice (some ⟨fb, 0, none⟩) g.length g.length) := hwr.xb.cell 0
      by_cases hjk : j < g.length
      · obtain ⟨ad, nm, k', a', b', c', d', t', ks', A', cp', rfl, hab, hej, hnm, hE, ⟨e0, e1, e2, e3, e4, e5, e6, e7⟩⟩ := (HG.out.on hbel).rule hjk
        have hcall : ∀ W, WellB (some ad) cp g fs fb w2.heap.size w W → Below w.heap.size wr W → Calls Try.prog 46 #[.agg #[.slice (some ad) g.length cp], .slice (some ⟨fb, 0, none⟩) g.length g.length, .agg #[.int .i64 k', .int .u64 a', .int .u64 b', .int .u64 c', .int .u64 d', .string t', .slice A' ks'.length cp']] W
            fun e' w' => e' = .returned (.bool (loopsE g fs (.mk k' a' b' c' d' t' ks'))) ∧ Below W.heap.size W w' := by
          intro W hW hr
          have := loops_any (fcp := g.length) HFL.out (.mk k' a' b' c' d' t' ks') _ W ((HG.out.on hW.bel).more hW.bel.size) (hW.fac.reads (B := W.heap.size) (Blk.lt hW.fac)) ((hE.on hr).keep hW.bel.size fun _ _ => rfl) (HR.out _ (List.mem_of_getElem? hej))
          rw [HFL.out] at this
          exact this
        have HC := Lib.hid hcall
        have HD := Lib.hid (drop_of hej)
        have HS : Hid (badLoop g fs (g.drop j) j = if loopsE g fs (.mk k' a' b' c' d' t' ks') = true then some j else badLoop g fs (g.drop (j + 1)) (j + 1)) := by show _ = _; rw [HD.out, badLoop]
        generalize loopsE g fs (.mk k' a' b' c' d' t' ks') = z at HC HS
        have hwr2 := hwr.alloc (.cells #[.string nm, .int .i64 k', .int .u64 a', .int .u64 b', .int .u64 c', .int .u64 d', .string t', .slice A' ks'.length cp'] 87)
        have hrr : Below w.heap.size wr (wr.alloc (.cells #[.string nm, .int .i64 k', .int .u64 a', .int .u64 b', .int .u64 c', .int .u64 d', .string t', .slice A' ks'.length cp'] 87)) := (by repeat (first | exact Below.refl _ _ | assumption | refine Below.drew ?_ | refine below_drewN ?_ _ | refine Below.alloc ?_ (by first | omega | (simp; omega) | simp) _ | refine Below.setCell ?_ (by first | omega | (simp; omega) | simp) _))
        clear hcall hE hej hnm hwr
        go_wp2_with fail
        refine (HC.out _ hwr2 hrr).mono ?_
        rintro e w3 ⟨rfl, hb3⟩
        have hw3 := hwr2.step hb3 (Nat.le_refl _)
        have hbel3 := hw3.bel
        clear hb3 hwr2 hrr
        cases z
        · have HN : Hid (badLoop g fs (g.drop (j + 1)) (j + 1) = badLoop g fs g 0) := by show _ = _; rw [← HJ.out, HS.out, if_neg (by decide)]
          clear HS
          go_wp2
          go_roundw
          case rel => exact ⟨j + 1, by omega, by go_num, HN, hw3⟩
          case measure => simp [intOf]; omega
        · have HN : Hid (wellG g = ((j : Int), 9)) := by show _ = _; rw [HW0.out, ← HJ.out, HS.out, if_pos rfl]
          clear HS
          go_wp2
          go_ret2
          exact ⟨by rw [HN.out]; rfl, hbel3⟩
      · obtain rfl : j = g.length := by omega
        have HN : Hid (wellG g = match badLeft (knownG g fs) 0 with
          | some i => (i, 8)
          | none => (0, 0)) := by show _ = _; rw [HW0.out, ← HJ.out, List.drop_length, badLoop]
        have hgr := growB_any (fcp := g.length) HFL.out ((HG.out.on hbel).more hz) (FA := some ⟨fb, 0, none⟩) (hwr.fac.reads (B := wr.heap.size) (Blk.lt hwr.fac)) hwr.gb (by rw [HFL.out]; exact hwr.xb) HR.out h10
        have HGR := Lib.hid hgr
        clear hgr HW0 HJ
        go_wp2_with fail
        refine HGR.out.mono ?_
        rintro e w3 ⟨rfl, hbo, hb3⟩
        have hbel3 : Below w.heap.size w w3 := hbel.trans (hb3.mono hz)
        have HKL : Hid ((knownG g fs).length = g.length) := known_len
        have HAD := Lib.hid (fun i : Nat => addr0 wr.heap.size i)
        have HK0 : Hid (badLeft ((knownG g fs).drop 0) 0 = badLeft (knownG g fs) 0) := rfl
        generalize knownG g fs = kn at HN hbo HKL HK0
        clear hb3 hwr q0 q1
        go_wp2
        go_loopw [9, 10, 40] (fun _ _ i wq => ∃ j : Nat, j ≤ g.length ∧ i = .int .i64 j ∧ Hid (badLeft (kn.drop j) j = badLeft kn 0) ∧ w3 = wq) (fun _ _ i _ => g.length - (intOf i).toNat)
        case atStart => exact ⟨0, by omega, rfl, HK0, rfl⟩
        case round =>
          obtain ⟨j, hj, rfl, HJ, rfl⟩ := hrel
          by_cases hjk : j < g.length
          · have hy : kn[j]? = some (kn[j]'(by rw [HKL.out]; exact hjk)) := List.getElem?_eq_getElem _
            generalize kn[j]'(by rw [HKL.out]; exact hjk) = y at hy
            have hcy := hbo.cell hy
            have HS : Hid (badLeft (kn.drop j) j = if y = false then some j else badLeft (kn.drop (j + 1)) (j + 1)) := by show _ = _; rw [drop_of hy, badLeft]
            have hadr := HAD.out j
            clear hy
            cases y
            · have HNN : Hid (wellG g = ((j : Int), 8)) := by show _ = _; rw [HN.out, ← HJ.out, HS.out, if_pos rfl]
              clear HS
              go_wp2
              go_ret2
              exact ⟨by rw [HNN.out]; rfl, hbel3⟩
            · have HNN : Hid (badLeft (kn.drop (j + 1)) (j + 1) = badLeft kn 0) := by show _ = _; rw [← HJ.out, HS.out, if_neg (by decide)]
              clear HS
              go_wp2
              go_roundw
              case rel => exact ⟨j + 1, by omega, by go_num, HNN, trivial⟩
              case measure => simp [intOf]; omega
          · obtain rfl : j = g.length := by omega
            have HNN : Hid (wellG g = (0, 0)) := by show _ = _; rw [HN.out, ← HJ.out, List.drop_eq_nil_of_le (by rw [HKL.out]; exact Nat.le_refl _), badLeft]
            go_wp2
            go_ret2
            exact ⟨by rw [HNN.out]; rfl, hbel3⟩
  · have HW0 : Hid (wellG g = (0, checkG g)) := if_pos h0
    have hxb : (checkG g != 0) = true := by rw [bne_iff_ne]; exact h0
    generalize checkG g = x at hxb HCK HW0
    go_enter Try.func33, Try.ntmps33
    go_wp2_with fail
    refine (HCK.out _ (by repeat (first | exact Below.refl _ _ | assumption | refine Below.drew ?_ | refine below_drewN ?_ _ | refine Below.alloc ?_ (by first | omega | (simp; omega) | simp) _ | refine Below.setCell ?_ (by first | omega | (simp; omega) | simp) _))).mono ?_
    rintro e w1 ⟨rfl, hb1⟩
    have hw1 : Below w.heap.size w w1 := ((Below.refl _ w).alloc (Nat.le_refl _) _).trans (hb1.mono (by simp))
    clear hb1 hbg
    go_wp2
    go_ret2
    exact ⟨by rw [HW0.out]; rfl, hw1⟩
end Go.Proofs.Ytndhbdbfjkmloaa
namespace Go.Proofs.Ytndhbdbfjkmloaa
open Go.RowKit

/-- what mean.Look says -/
def lookG (g : List Rl) (s : ByteArray) : Int := if (wellG g).2 ≠ 0 then (wellG g).2 else if 60 < s.size then 2 else 0
set_option maxRecDepth 100000 in
theorem mlook_any {g : List Rl} {A : Option Addr} {cp : Nat} {row : Nat → List Value} {w : World} (h : GrIs w w.heap.size g A cp row) (s : ByteArray) :
    Calls Try.prog 19 #[.agg #[.slice A g.length cp], .string s] w fun e w' => e = .returned (.int .i64 (lookG g s)) ∧ Below w.heap.size w w' := by
  have hck := fun W (hW : Below w.heap.size w W) => well_any ((h.on hW).more hW.size)
  have HCK := Lib.hid hck
  have HL : Hid (lookG g s = if (wellG g).2 ≠ 0 then (wellG g).2 else if 60 < s.size then 2 else 0) := rfl
  clear hck h
  unfold WellQ at HCK
  generalize wellG g = r at HCK HL
  obtain ⟨i, x⟩ := r
  by_cases hx : x = 0
  · subst hx
    by_cases h60 : 60 < s.size
    · have HN : Hid (lookG g s = 2) := by show _ = _; rw [HL.out, if_neg (by simp), if_pos h60]
      go_enter Try.func19, Try.ntmps19
      go_wp2_with fail
      refine (HCK.out _ (by repeat (first | exact Below.refl _ _ | assumption | refine Below.drew ?_ | refine below_drewN ?_ _ | refine Below.alloc ?_ (by first | omega | (simp; omega) | simp) _ | refine Below.setCell ?_ (by first | omega | (simp; omega) | simp) _))).mono ?_
      rintro e w1 ⟨rfl, hb1⟩
      have hw1 : Below w.heap.size w w1 := ((Below.refl _ w).alloc (Nat.le_refl _) _).trans (hb1.mono (by simp))
      clear hb1
      go_wp2
      go_ret
      exact ⟨ret_int HN.out.symm, hw1⟩
    · have HN : Hid (lookG g s = 0) := by show _ = _; rw [HL.out, if_neg (by simp), if_neg h60]
      go_enter Try.func19, Try.ntmps19
      go_wp2_with fail
      refine (HCK.out _ (by repeat (first | exact Below.refl _ _ | assumption | refine Below.drew ?_ | refine below_drewN ?_ _ | refine Below.alloc ?_ (by first | omega | (simp; omega) | simp) _ | refine Below.setCell ?_ (by first | omega | (simp; omega) | simp) _))).mono ?_
      rintro e w1 ⟨rfl, hb1⟩
      have hw1 : Below w.heap.size w w1 := ((Below.refl _ w).alloc (Nat.le_refl _) _).trans (hb1.mono (by simp))
      clear hb1
      go_wp2
      go_ret
      exact ⟨ret_int HN.out.symm, hw1⟩
  · have hxb : (x != 0) = true := by rw [bne_iff_ne]; exact hx
    have HN : Hid (lookG g s = x) := by show _ = _; rw [HL.out, if_pos hx]
    clear hx
    go_enter Try.func19, Try.ntmps19
    go_wp2_with fail
    refine (HCK.out _ (by repeat (first | exact Below.refl _ _ | assumption | refine Below.drew ?_ | refine below_drewN ?_ _ | refine Below.alloc ?_ (by first | omega | (simp; omega) | simp) _ | refine Below.setCell ?_ (by first | omega | (simp; omega) | simp) _))).mono ?_
    rintro e w1 ⟨rfl, hb1⟩
    have hw1 : Below w.heap.size w w1 := ((Below.refl _ w).alloc (Nat.le_refl _) _).trans (hb1.mono (by simp))
    clear hb1
    go_wp2
    go_ret
    exact ⟨ret_int HN.out.symm, hw1⟩
end Go.Proofs.Ytndhbdbfjkmloaa
