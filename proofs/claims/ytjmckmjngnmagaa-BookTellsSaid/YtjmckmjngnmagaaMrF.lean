/- (*runner).run whole, by induction on the fuel; mean.Run. -/
import Derived.Test.YtjmckmjngnmagaaMrB
import Derived.Test.YtjmckmjngnmagaaMrR
import Derived.Test.YtjmckmjngnmagaaMrD
import Derived.Test.YtjmckmjngnmagaaMrE
namespace Go.Proofs.Ytjmckmjngnmagaa
open Go.RowKit Go.Maps

theorem runs {c : RC} (F : c.Fit) : ∀ n, DoesRun c n := by
  intro n
  induction n using Nat.strongRecOn with
  | _ n ih =>
  intro e p o cs w L hev hE hRt hp h hL
  cases n with
  | zero => cases hev
  | succ n =>
  have hR : ∀ m, m ≤ n → DoesRun c m := fun m hm => ih m (by omega)
  have hA : ∀ m, m ≤ n → DoesAgain c m := fun m hm => again_any F fun k hk => hR k (by omega)
  have hlen := F.len
  have hpos := cost_pos _ _ _ _ _ _ hev
  cases L with
  | zero =>
    have := mr_zero h cs.toArray p _ hpos o
    exact this
  | succ l =>
  obtain ⟨hrt, hwf⟩ := hRt
  cases hrt with
  | mk k a b d1 d2 t ks hfit hname hkids =>
  cases hwf with
  | mk _ _ _ _ _ _ _ hk64 wa wb wc wd wks =>
  have hRk : ∀ e ∈ ks, RtW c.g e := fun e he => ⟨hkids e he, wks e he⟩
  rw [ev_s] at hev
  rw [cost_ex]
  rcases fit_cases hfit with ⟨rfl, h0⟩ | ⟨rfl, h0⟩ | ⟨rfl, h0, _, h60⟩ | ⟨rfl, h0, _⟩ | ⟨rfl, h2, h8⟩ | ⟨rfl, h2, h8⟩ | ⟨h7, h11, h1⟩
  · rw [if_pos rfl] at hev
    injection hev with hev
    subst hev
    rw [if_pos (by omega)]
    obtain ⟨_, A, cp, rfl, _⟩ := hE.shape
    exact mr_empty h hL a b d1 d2 t A _ cp p
  · rw [if_neg (by decide), if_pos rfl] at hev
    injection hev with hev
    subst hev
    rw [if_pos (by omega)]
    obtain ⟨_, A, cp, rfl, _⟩ := hE.shape
    obtain ⟨a, rfl, ha⟩ := u64_nat wa
    obtain ⟨b, rfl, hb⟩ := u64_nat wb
    obtain ⟨d1, rfl, hc⟩ := u64_nat wc
    obtain ⟨d2, rfl, hd⟩ := u64_nat wd
    exact mr_set h hL a b d1 d2 ha hb hc hd t A ks.length cp p hp hlen
  · rw [if_neg (by decide), if_neg (by decide), if_pos rfl] at hev
    injection hev with hev
    subst hev
    rw [if_pos (by omega)]
    obtain ⟨_, A, cp, rfl, _⟩ := hE.shape
    exact mr_lit h hL a b d1 d2 t A ks.length cp p hp hlen (by have : t.data.toList.length = t.size := size_list t; omega)
  · rw [if_neg (by decide), if_neg (by decide), if_neg (by decide), if_pos rfl] at hev
    rw [if_neg (by decide), if_pos rfl]
    obtain ⟨_, A, cp, rfl, _⟩ := hE.shape
    obtain ⟨r, hr, _⟩ := fnd_at (hname rfl)
    rw [hr] at hev ⊢
    simp only at hev ⊢
    obtain ⟨j, hj⟩ := Int.eq_ofNat_of_zero_le (hname rfl)
    rw [hj] at hr
    have hr' : c.g[j]? = some r := hr
    refine mr_ref h hL a b d1 d2 t A ks.length cp p _ o j hj (getElem?_lt hr') (fun r' cs' W hr2 hE' hW => ?_)
    rw [hr'] at hr2
    injection hr2 with hr2
    subst hr2
    exact hR n (Nat.le_refl _) r.2 p o cs' W l hev hE' ⟨F.right.rt r (List.mem_of_getElem? hr'), F.wf r (List.mem_of_getElem? hr')⟩ hp hW (by omega)
  · rw [if_neg (by decide), if_neg (by decide), if_neg (by decide), if_neg (by decide), if_pos rfl] at hev
    rw [if_neg (by decide), if_neg (by decide), if_pos rfl]
    exact mr_seq F hR h hL a b d1 d2 t ks p o cs hev hE hRk hp
  · rw [if_neg (by decide), if_neg (by decide), if_neg (by decide), if_neg (by decide), if_neg (by decide), if_pos rfl] at hev
    rw [if_neg (by decide), if_neg (by decide), if_neg (by decide), if_pos rfl]
    exact mr_alt hR h hL a b d1 d2 t ks p o cs hev hE hRk hp
  · rw [if_neg (by omega), if_neg (by omega), if_neg (by omega), if_neg (by omega), if_neg (by omega), if_neg (by omega)] at hev
    rw [if_neg (by omega), if_neg (by omega), if_neg (by omega), if_neg (by omega)]
    cases ks with
    | nil => simp at h1
    | cons e es =>
      have hes : es = [] := by
        cases es with
        | nil => rfl
        | cons x xs => simp at h1
      subst hes
      simp only at hev ⊢
      exact mr_one F hR hA h hL k a b d1 d2 t e p o cs h7 h11 hev hE (hRk e (by simp)) hp

/-- what mean.Run answers: with so many steps, where it takes C -/
def MRunR (g : List Rl) (s : ByteArray) (steps : Int) (C : Nat) (o v : Option Nat) (n x : Int) : Prop :=
  (lookG g s ≠ 0 ∧ v = none ∧ n = 0 ∧ x = lookG g s) ∨ (lookG g s = 0 ∧ (steps < 0 ∨ 1048576 < steps) ∧ v = none ∧ n = 0 ∧ x = 1) ∨
  (lookG g s = 0 ∧ 0 ≤ steps ∧ steps ≤ 1048576 ∧ steps < C ∧ v = none ∧ n = 0 ∧ x = 10) ∨
  (lookG g s = 0 ∧ (C : Int) ≤ steps ∧ steps ≤ 1048576 ∧ v = o ∧ n = C ∧ x = 0)
def MRunQ (g : List Rl) (s : ByteArray) (steps : Int) (C : Nat) (o : Option Nat) (w : World) (e : Ending) (w' : World) : Prop := ∃ v n x, MRunR g s steps C o v n x ∧ e = .returned (.tuple #[outV v, .int .i64 n, .int .i64 x]) ∧ Below w.heap.size w w'
/-- C and o are what the first rule takes, if the grammar is well -/
def Costs (g : List Rl) (s : ByteArray) (C : Nat) (o : Option Nat) : Prop := lookG g s = 0 → ∃ (n : Nat) (r : Rl), g[0]? = some r ∧ ev g s.data.toList n r.2 0 = some o ∧ C = cost g s.data.toList n (.ex r.2) 0
theorem costs (g : List Rl) (s : ByteArray) : ∃ C o, Costs g s C o := by
  by_cases h : lookG g s = 0
  · obtain ⟨W, h60⟩ := look_zero h
    have hpos := W.right.pos
    obtain ⟨r, hr⟩ : ∃ r, g[0]? = some r := ⟨_, List.getElem?_eq_getElem hpos⟩
    obtain ⟨n, o, he⟩ := ends (s := s.data.toList) W (p := 0) (by omega) (W.good (List.mem_of_getElem? hr))
    exact ⟨_, o, fun _ => ⟨n, r, hr, he, rfl⟩⟩
  · exact ⟨0, none, fun h' => absurd h' h⟩
end Go.Proofs.Ytjmckmjngnmagaa
