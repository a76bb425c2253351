/- What a parser does, by induction on the fuel. -/
import Derived.Test.YtkmcnekjimobhaaPkX
namespace Go.Proofs.Ytkmcnekjimobhaa
open Go.RowKit Go.Maps

/-- a parser's grammar and text are right and not too long -/
structure PC.Fit (c : PC) : Prop where
  ok : c.Ok
  hook : HookOk c
  rules : c.g.length ≤ 1000
  len : c.s.data.toList.length ≤ 1000
  rt : ∀ r ∈ c.g, RtW c.g r.2
  nodes : ∀ i r, c.g[i]? = some r → firstN c.g i + Go.Proofs.Ytkmcnekjimobhaa.nodes r.2 ≤ c.lim

theorem rule_any {c : PC} (F : c.Fit) {m : Nat} (hT : DoesTry c c.g m) : DoesRule c (m + 1) := by
  intro i p σ r w hpk hi hp hB h
  have hl := F.len
  have hg := F.rules
  simp only [pk] at hpk
  cases hs : recall σ.seen (i, p) with
  | some o =>
    rw [hs] at hpk
    simp only [Option.some.injEq] at hpk
    subst hpk
    exact (rule_hit F.ok i p (by unfold big; omega) (by unfold big; omega) o hs w h).mono fun e w' hh => ⟨⟨o, hh.1, rfl⟩, hh.2⟩
  | none =>
    rw [hs] at hpk
    obtain ⟨rr, hr⟩ : ∃ rr, c.g[i]? = some rr := ⟨_, List.getElem?_eq_getElem hi⟩
    simp only [hr] at hpk
    cases he : pk c.g c.s.data.toList c.hk m (.try_ rr.2 (firstN c.g i)) p σ with
    | none => rw [he] at hpk; cases hpk
    | some x =>
      obtain ⟨o, σ1⟩ := x
      rw [he] at hpk
      simp only at hpk
      split at hpk
      · cases hpk
      rename_i hn
      simp only [Option.some.injEq] at hpk
      subst hpk
      have hbd := pk_bound _ _ _ _ _ _ _ _ _ he hp hB
      have hge := pk_ge _ _ _ _ _ _ _ _ _ he
      have hn' : recall σ1.seen (i, p) = none := by simpa using hn
      refine (rule_new F.ok i p (o.getD 0) hi hg hp hl o hs hn' (fun q hq => ⟨by rw [hq]; rfl, hge q hq⟩) (by
        cases o with
        | none => simp
        | some q => have := hbd.1 q rfl; simp; omega) (fun r cs W hr' hE hP => by
          rw [hr] at hr'
          injection hr' with hr'
          subst hr'
          exact hT _ _ p σ (o, σ1) _ W he hE (F.rt _ (List.mem_of_getElem? hr)) (F.nodes i _ hr) hp hB hP) w h).mono fun e w' hh => ⟨⟨_, hh.1, ?_⟩, hh.2⟩
      cases o with
      | none => rfl
      | some q =>
        have := hge q rfl
        simp only [Option.map_some, Option.some.injEq]
        omega

theorem u64_nat {a : Int} (h : U64 a) : ∃ n : Nat, a = n ∧ n < 18446744073709551616 := by
  obtain ⟨h1, h2⟩ := h
  exact ⟨a.toNat, by omega, by omega⟩
theorem node_any {c : PC} (F : c.Fit) {m : Nat} (hT : DoesTry c c.g m) (hU : DoesRule c m) : DoesNode c c.g (m + 1) := by
  intro e num p σ r cs w hpk hE hR hnum hp hB h
  have hl := F.len
  have hbd := pk_bound _ _ _ _ _ _ _ _ _ hpk hp hB
  obtain ⟨hrt, hwf⟩ := hR
  cases hrt with
  | mk k a b d1 d2 t ks hfit hname hkids =>
  cases hwf with
  | mk _ _ _ _ _ _ _ hk64 wa wb wc wd wks =>
  have hRk : ∀ e ∈ ks, RtW c.g e := fun e he => ⟨hkids e he, wks e he⟩
  rw [nodes] at hnum
  rw [pk_node] at hpk
  have hlb : c.s.data.toList.length ≤ big := by unfold big; omega
  rcases fit_cases hfit with ⟨rfl, h0⟩ | ⟨rfl, h0⟩ | ⟨rfl, h0, _, h60⟩ | ⟨rfl, h0, _⟩ | ⟨rfl, h2, h8⟩ | ⟨rfl, h2, h8⟩ | ⟨h7, h11, h1⟩
  · rw [if_pos rfl] at hpk
    simp only [Option.some.injEq] at hpk
    subst hpk
    obtain ⟨_, A, cp, rfl, _⟩ := hE.shape
    exact node_empty F.ok a b d1 d2 t A _ cp num p w h
  · rw [if_neg (by decide), if_pos rfl] at hpk
    obtain ⟨_, A, cp, rfl, _⟩ := hE.shape
    obtain ⟨a, rfl, ha⟩ := u64_nat wa
    obtain ⟨b, rfl, hb⟩ := u64_nat wb
    obtain ⟨d1, rfl, hc⟩ := u64_nat wc
    obtain ⟨d2, rfl, hd⟩ := u64_nat wd
    have := node_set F.ok (σ := σ) a b d1 d2 ha hb hc hd t A ks.length cp num p hp hlb w h
    rw [show (if p < c.s.data.toList.length ∧ hasE a b d1 d2 (bt c.s.data.toList p) = true then (some (p + 1), σ) else (none, missS σ p ⟨a, b, d1, d2⟩)) = r from by
      split at hpk
      · rename_i hc; rw [if_pos hc]; injection hpk
      · rename_i hc; rw [if_neg hc]; injection hpk] at this
    exact this
  · rw [if_neg (by decide), if_neg (by decide), if_pos rfl] at hpk
    obtain ⟨hts, A, cp, rfl, _⟩ := hE.shape
    have := node_lit F.ok (σ := σ) a b d1 d2 t A ks.length cp num p hp hlb (by have : t.data.toList.length = t.size := size_list t; unfold big; omega) w h
    rw [show (if litAt c.s.data.toList p t.data.toList = true then (some (p + t.size), σ) else (none, missS σ (p + matchN c.s.data.toList p t.data.toList) (oneS (bt t.data.toList (matchN c.s.data.toList p t.data.toList))))) = r from by
      split at hpk
      · rename_i hc; rw [if_pos hc]; injection hpk
      · rename_i hc; rw [if_neg hc]; injection hpk] at this
    exact this
  · rw [if_neg (by decide), if_neg (by decide), if_neg (by decide), if_pos rfl] at hpk
    obtain ⟨_, A, cp, rfl, _⟩ := hE.shape
    have hi := hname rfl
    have hlt := (fndFrom_le c.g t.data.toList 0).2
    have hin : ((fnd c.g t.data.toList).toNat : Int) = fnd c.g t.data.toList := Int.toNat_of_nonneg hi
    exact node_ref F.ok a b d1 d2 t A ks.length cp num p (by omega) r (fun q hq => by have := hbd.1 q hq; omega) w h fun W hW => by
      have := hU (fnd c.g t.data.toList).toNat p σ r W hpk (by unfold fnd; unfold fnd at hi; omega) hp hB hW
      rw [hin] at this
      exact this
  · rw [if_neg (by decide), if_neg (by decide), if_neg (by decide), if_neg (by decide), if_pos rfl] at hpk
    exact node_seq F.ok hT a b d1 d2 t ks num p σ r cs w hpk hE hRk (by omega) hp hB h
  · rw [if_neg (by decide), if_neg (by decide), if_neg (by decide), if_neg (by decide), if_neg (by decide), if_pos rfl] at hpk
    exact node_alt F.ok hT a b d1 d2 t ks num p σ r cs w hpk hE hRk (by omega) hp hB h
  · rw [if_neg (by omega), if_neg (by omega), if_neg (by omega), if_neg (by omega), if_neg (by omega), if_neg (by omega)] at hpk
    match ks, h1 with
    | [e], _ =>
      rw [nodesAll, nodesAll] at hnum
      exact node_one F.ok hT k a b d1 d2 t e num p σ r cs w h7 h11 hpk hE (hRk e (by simp)) (by omega) hp hB h

theorem does {c : PC} (F : c.Fit) : ∀ m, DoesNode c c.g m ∧ DoesTry c c.g m ∧ DoesRule c m := by
  intro m
  induction m with
  | zero => exact ⟨fun e num p σ r cs w hpk => (by cases hpk), fun e num p σ r cs w hpk => (by cases hpk), fun i p σ r w hpk => (by cases hpk)⟩
  | succ m ih => exact ⟨node_any F ih.2.1 ih.2.2, try_any F.ok F.hook ih.1, rule_any F ih.2.1⟩
end Go.Proofs.Ytkmcnekjimobhaa
