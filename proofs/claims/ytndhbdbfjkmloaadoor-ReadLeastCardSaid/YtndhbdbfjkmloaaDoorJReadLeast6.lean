/- A right expression's pieces are good; they hold its brackets and its leaves. Plain. A bracket within a literal made a blank: another literal. Plain. Classes as items: reading them. Plain. A class's text as items, and which items there are. Plain. A bracket within a class made a blank: no class, or another. Plain. No pair of brackets may be left out: plain. No pair of brackets of a printed text may be left out: plain. strings.HasPrefix, by itself. -/
import Derived.Test.YtndhbdbfjkmloaaDoorJReadLeast5
import Derived.Test.YtndhbdbfjkmloaaDoorJReadLeast0
import Derived.Lib.Strings
namespace Go.Proofs.YtndhbdbfjkmloaaDoor
open Go.RowKit

structure PcOk (e : Ex) : Prop where
  good : ∀ R, goodP R → sepP R = true → goodP (pcE e ++ R)
  cnt : cntT (toksP (pcE e)) = brE e
  lvs : lvsT (toksP (pcE e)) = lvE e
  bd : ∀ p ∈ pcE e, p.was
structure BrOk (e : Ex) (least : Nat) : Prop where
  good : ∀ R, goodP R → sepP R = true → goodP (brkP e least (pcE e) ++ R)
  cnt : cntT (toksP (brkP e least (pcE e))) = one0 e least + brE e
  lvs : lvsT (toksP (brkP e least (pcE e))) = lvE e
  bd : ∀ p ∈ brkP e least (pcE e), p.was
theorem good_sg {c : UInt8} (h : SgC c) {R : List Pc} (hR : goodP R) : goodP (.sg c :: R) := ⟨h, fun h => (by cases h), hR⟩
theorem good_bl {R : List Pc} (hR : goodP R) : goodP (.bl :: R) := ⟨trivial, fun h => (by cases h), hR⟩
theorem PcOk.br {e : Ex} (H : PcOk e) (least : Nat) : BrOk e least := by
  constructor
  · intro R hR hs
    unfold brkP
    split
    · have h1 := H.good (.sg 41 :: R) (good_sg (by unfold SgC; simp) hR) rfl
      have h2 := good_sg (c := 40) (by unfold SgC; simp) h1
      simpa using h2
    · exact H.good R hR hs
  · unfold brkP one0
    split
    · show cntT (Tk.sg 40 :: toksP (pcE e ++ [.sg 41])) = _
      rw [toksP_app]
      simp only [cntT, cntT_app, H.cnt, toksP, Pc.toks, Tk.cost, List.append_nil]
      rfl
    · rw [H.cnt]; omega
  · unfold brkP
    split
    · show lvsT (Tk.sg 40 :: toksP (pcE e ++ [.sg 41])) = _
      rw [toksP_app]
      simp [lvsT, lvsT_app, H.lvs, toksP, Pc.toks, Tk.leaf]
    · exact H.lvs
  · unfold brkP
    intro p hp
    split at hp
    · rcases List.mem_cons.1 hp with rfl | hp
      · exact trivial
      · rcases List.mem_append.1 hp with hp | hp
        · exact H.bd p hp
        · rw [List.mem_singleton.1 hp]; exact trivial
    · exact H.bd p hp
/-- what stands between -/
structure SepOk (sep : List Pc) : Prop where
  good : ∀ R, goodP R → goodP (sep ++ R)
  cnt : cntT (toksP sep) = 0
  lvs : lvsT (toksP sep) = []
  bd : ∀ p ∈ sep, p.was
theorem sep_1 : SepOk [.bl] := ⟨fun R h => good_bl h, rfl, rfl, fun p hp => by rw [List.mem_singleton.1 hp]; exact trivial⟩
theorem sep_3 : SepOk [.bl, .sg 47, .bl] := ⟨fun R h => good_bl (good_sg (by unfold SgC; simp) (good_bl h)), rfl, rfl, fun p hp => by simp at hp; rcases hp with rfl | rfl | rfl <;> exact trivial⟩
theorem pcL_facts (least : Nat) {sep : List Pc} (hs : SepOk sep) : ∀ ks : List Ex, (∀ e ∈ ks, PcOk e) →
    cntT (toksP (pcL least sep ks)) = brL least ks ∧ lvsT (toksP (pcL least sep ks)) = lvL ks ∧ (∀ p ∈ pcL least sep ks, p.was)
  | [], _ => by rw [pcL, brL, lvL]; exact ⟨rfl, rfl, fun p hp => by cases hp⟩
  | e :: es, h => by
    obtain ⟨i1, i2, i3⟩ := pcL_facts least hs es fun x hx => h x (.tail _ hx)
    have B := (h e (.head _)).br least
    rw [pcL, brL, lvL]
    simp only [toksP_app, cntT_app, lvsT_app, hs.cnt, hs.lvs, B.cnt, B.lvs, i1, i2]
    refine ⟨by omega, by simp, fun p hp => ?_⟩
    rcases List.mem_append.1 hp with hp | hp
    · exact hs.bd p hp
    · rcases List.mem_append.1 hp with hp | hp
      · exact B.bd p hp
      · exact i3 p hp
theorem pcL_good (least : Nat) {p0 : Pc} {sep : List Pc} (hp0 : p0.open = true) (hs : SepOk (p0 :: sep)) {R : List Pc} (hR : goodP R) (hsR : sepP R = true) : ∀ ks : List Ex, (∀ e ∈ ks, PcOk e) → goodP (pcL least (p0 :: sep) ks ++ R) ∧ sepP (pcL least (p0 :: sep) ks ++ R) = true
  | [], _ => by rw [pcL]; exact ⟨hR, hsR⟩
  | e :: es, h => by
    obtain ⟨i1, i2⟩ := pcL_good least hp0 hs hR hsR es fun x hx => h x (.tail _ hx)
    have B := (h e (.head _)).br least
    rw [pcL, List.append_assoc, List.append_assoc]
    exact ⟨hs.good _ (B.good _ i1 i2), hp0⟩
theorem pcL_one (least : Nat) (e : Ex) : pcL least [] [e] = brkP e least (pcE e) := by simp [pcL]
theorem leaf_one {k : Int} {e : Ex} {t : List UInt8} (hP : pcE e = [.nd e t]) (hl : LeafO e t) (hk : e.kindX = k) (hk2 : k = 2 ∨ k = 3 ∨ k = 4) (h0 : ∃ a b c d s, e = .mk k a b c d s []) : PcOk e := by
  obtain ⟨a, b, c, d, s, rfl⟩ := h0
  have L : LeafT (.mk k a b c d s []) := leafT_of (.inr hk2)
  refine ⟨fun R hR hs => ?_, ?_, ?_, ?_⟩
  · rw [hP]; exact ⟨.old hl, fun _ => hs, hR⟩
  · rw [hP, L.br]; simp [toksP, Pc.toks, cntT]
  · rw [hP, L.lv]; simp [toksP, Pc.toks, lvsT]
  · rw [hP]; intro p hp; rw [List.mem_singleton.1 hp]; exact hl
theorem pc_ok (e : Ex) : Rtx e → PcOk e := by
  induction e using Ex.ind with
  | h k a b c d t ks ih =>
    intro hR
    cases hR with
    | mk _ _ _ _ _ _ _ hf ha hb hc hd hks =>
    have IH : ∀ e ∈ ks, PcOk e := fun e he => ih e he (hks e he)
    rcases fit_what hf with ⟨rfl, ht, ⟨rfl, rfl, rfl, rfl⟩, hn⟩ | ⟨rfl, ht, hn⟩ | ⟨rfl, ht, ⟨rfl, rfl, rfl, rfl⟩, hn⟩ | ⟨rfl, ht, ⟨rfl, rfl, rfl, rfl⟩, hn⟩ | ⟨hk, ht, ⟨rfl, rfl, rfl, rfl⟩, hn, hn8⟩ | ⟨hk, ht, ⟨rfl, rfl, rfl, rfl⟩, hn⟩
    · obtain rfl := List.eq_nil_of_length_eq_zero hn
      have hP : pcE (.mk 1 0 0 0 0 t []) = [.sg 40, .sg 41] := by rw [pcE]; rfl
      refine ⟨fun R hR hs => ?_, ?_, ?_, ?_⟩
      · rw [hP]; exact good_sg (by unfold SgC; simp) (good_sg (by unfold SgC; simp) hR)
      · rw [hP, brE_mk]; rfl
      · rw [hP, lvE_mk]; rfl
      · rw [hP]; intro p hp; simp at hp; rcases hp with rfl | rfl <;> exact trivial
    · obtain rfl := text_nil ht
      obtain rfl := List.eq_nil_of_length_eq_zero hn
      obtain ⟨w1, w2⟩ := words_of ha hb hc hd
      by_cases hM : a = wM ∧ b = wM ∧ c = wM ∧ d = wM
      · refine leaf_one (t := [46]) (k := 2) (by rw [pcE, if_neg (by decide), if_pos rfl, if_pos hM]) ?_ rfl (.inl rfl) ⟨_, _, _, _, _, rfl⟩
        obtain ⟨rfl, rfl, rfl, rfl⟩ := hM
        exact .any
      · refine leaf_one (t := clsAll [a.toNat, b.toNat, c.toNat, d.toNat]) (k := 2) (by rw [pcE, if_neg (by decide), if_pos rfl, if_neg hM]) ?_ rfl (.inl rfl) ⟨_, _, _, _, _, rfl⟩
        rw [← w2]
        exact .cls _ rfl w1
    · obtain rfl := List.eq_nil_of_length_eq_zero hn
      refine leaf_one (t := litL t.data.toList) (k := 3) (by rw [pcE, if_neg (by decide), if_neg (by decide), if_pos rfl]) ?_ rfl (.inr (.inl rfl)) ⟨_, _, _, _, _, rfl⟩
      have := LeafO.lit t.data.toList ht.1
      unfold eLit at this
      rw [text_back] at this
      exact this
    · obtain rfl := List.eq_nil_of_length_eq_zero hn
      refine leaf_one (t := t.data.toList) (k := 4) (by rw [pcE, if_neg (by decide), if_neg (by decide), if_neg (by decide), if_pos rfl]) ?_ rfl (.inr (.inr rfl)) ⟨_, _, _, _, _, rfl⟩
      have := LeafO.name t.data.toList ht
      unfold eRef at this
      rw [text_back] at this
      exact this
    · obtain ⟨e, es, rfl⟩ : ∃ e es, ks = e :: es := by
        cases ks with
        | nil => simp at hn
        | cons e es => exact ⟨e, es, rfl⟩
      have main : ∀ (least : Nat) (p0 : Pc) (sep : List Pc), p0.open = true → SepOk (p0 :: sep) → pcE (.mk k 0 0 0 0 t (e :: es)) = (pcL least (p0 :: sep) (e :: es)).drop (p0 :: sep).length → leastK k = least → PcOk (.mk k 0 0 0 0 t (e :: es)) := fun least p0 sep hp0 hs hP hl => by
        rw [pcL, List.drop_left] at hP
        have B := (IH e (.head _)).br least
        obtain ⟨i1, i2, i3⟩ := pcL_facts least hs es fun x hx => IH x (.tail _ hx)
        refine ⟨fun R hR hsR => ?_, ?_, ?_, ?_⟩
        · obtain ⟨g1, g2⟩ := pcL_good least hp0 hs hR hsR es fun x hx => IH x (.tail _ hx)
          rw [hP, List.append_assoc]
          exact B.good _ g1 g2
        · rw [hP, brE_mk, hl, toksP_app, cntT_app, B.cnt, i1, if_neg (by omega), brL]; omega
        · rw [hP, lvE_mk, toksP_app, lvsT_app, B.lvs, i2, if_neg (by omega), if_neg (by omega), lvL]
        · rw [hP]
          intro p hp
          rcases List.mem_append.1 hp with hp | hp
          · exact B.bd p hp
          · exact i3 p hp
      rcases hk with rfl | rfl
      · exact main 3 .bl [] rfl sep_1 (by rw [pcE]; rfl) rfl
      · exact main 2 .bl [.sg 47, .bl] rfl sep_3 (by rw [pcE]; rfl) rfl
    · obtain ⟨e, rfl⟩ : ∃ e, ks = [e] := List.length_eq_one_iff.1 hn
      have H := IH e (.head _)
      have pre : ∀ (c : UInt8), SgC c → c.toNat ≠ 40 → leastK k = 3 → pcE (.mk k 0 0 0 0 t [e]) = .sg c :: pcL 3 [] [e] → PcOk (.mk k 0 0 0 0 t [e]) := fun c hc hc40 hl hP => by
        rw [pcL_one] at hP
        have B := H.br 3
        refine ⟨fun R hR hsR => ?_, ?_, ?_, ?_⟩
        · rw [hP]; exact good_sg hc (B.good R hR hsR)
        · rw [hP, brE_mk, hl, brL_one, if_neg (by omega)]
          show cntT (Tk.sg c.toNat :: toksP _) = _
          simp only [cntT, Tk.cost, B.cnt, if_neg hc40]
        · rw [hP, lvE_mk, if_neg (by omega), if_neg (by omega), lvL_one]
          show lvsT (Tk.sg c.toNat :: toksP _) = _
          simp only [lvsT, Tk.leaf, B.lvs, List.nil_append]
        · rw [hP]
          intro p hp
          rcases List.mem_cons.1 hp with rfl | hp
          · exact trivial
          · exact B.bd p hp
      have post : ∀ (c : UInt8), SgC c → c.toNat ≠ 40 → leastK k = 4 → pcE (.mk k 0 0 0 0 t [e]) = pcL 4 [] [e] ++ [.sg c] → PcOk (.mk k 0 0 0 0 t [e]) := fun c hc hc40 hl hP => by
        rw [pcL_one] at hP
        have B := H.br 4
        refine ⟨fun R hR hsR => ?_, ?_, ?_, ?_⟩
        · rw [hP, List.append_assoc]; exact B.good _ (good_sg hc hR) rfl
        · rw [hP, brE_mk, hl, brL_one, if_neg (by omega), toksP_app, cntT_app, B.cnt]
          simp only [toksP, Pc.toks, cntT, Tk.cost, if_neg hc40, List.append_nil]
          omega
        · rw [hP, lvE_mk, if_neg (by omega), if_neg (by omega), lvL_one, toksP_app, lvsT_app, B.lvs]
          simp [toksP, Pc.toks, lvsT, Tk.leaf]
        · rw [hP]
          intro p hp
          rcases List.mem_append.1 hp with hp | hp
          · exact B.bd p hp
          · rw [List.mem_singleton.1 hp]; exact trivial
      rcases (by omega : k = 7 ∨ k = 8 ∨ k = 9 ∨ k = 10 ∨ k = 11) with rfl | rfl | rfl | rfl | rfl
      · exact post 42 (by unfold SgC; simp) (by decide) rfl (by rw [pcE]; rfl)
      · exact post 43 (by unfold SgC; simp) (by decide) rfl (by rw [pcE]; rfl)
      · exact post 63 (by unfold SgC; simp) (by decide) rfl (by rw [pcE]; rfl)
      · exact pre 38 (by unfold SgC; simp) (by decide) rfl (by rw [pcE]; rfl)
      · exact pre 33 (by unfold SgC; simp) (by decide) rfl (by rw [pcE]; rfl)
end Go.Proofs.YtndhbdbfjkmloaaDoor
namespace Go.Proofs.YtndhbdbfjkmloaaDoor
open Go.RowKit

def Br (c : UInt8) : Prop := c = 40 ∨ c = 41
theorem set_split {t : List UInt8} {i : Nat} {c : UInt8} (h : t[i]? = some c) : ∃ X Y, t = X ++ c :: Y ∧ X.length = i ∧ ∀ d, t.set i d = X ++ d :: Y := by
  induction t generalizing i with
  | nil => simp at h
  | cons x t ih =>
    cases i with
    | zero =>
      have hx : x = c := by simpa using h
      subst hx
      exact ⟨[], t, rfl, rfl, fun d => rfl⟩
    | succ i =>
      obtain ⟨X, Y, h1, h2, h3⟩ := ih (by simpa using h)
      exact ⟨x :: X, Y, by rw [h1]; rfl, by simp [h2], fun d => by simp [h3 d]⟩
theorem encAll_app (cls : Bool) : ∀ a b : List UInt8, encAll cls (a ++ b) = encAll cls a ++ encAll cls b
  | [], b => rfl
  | x :: a, b => by simp only [List.cons_append, encAll, encAll_app cls a b, List.append_assoc]
theorem enc_br (cls : Bool) : ∀ n : Fin 256, ∀ c ∈ enc cls n.val, c = 40 ∨ c = 41 → c.toNat = n.val ∧ enc cls n.val = [c] := by cases cls <;> decide +kernel
theorem enc_mem {cls : Bool} {x c : UInt8} (hc : Br c) (h : c ∈ enc cls x.toNat) : x = c ∧ enc cls x.toNat = [c] := by
  obtain ⟨h1, h2⟩ := enc_br cls ⟨x.toNat, x.toNat_lt⟩ c h hc
  exact ⟨UInt8.toNat_inj.1 h1.symm, h2⟩
theorem enc_32 : enc false 32 = [32] := by decide
theorem enc_split (cls : Bool) {c : UInt8} (hc : Br c) : ∀ (s A B : List UInt8), encAll cls s = A ++ c :: B → ∃ a b, s = a ++ c :: b ∧ A = encAll cls a ∧ B = encAll cls b
  | [], A, B, h => by
    have := congrArg List.length h
    simp [encAll] at this
  | x :: s, A, B, h => by
    rw [encAll] at h
    rcases List.append_eq_append_iff.1 h with ⟨a', h1, h2⟩ | ⟨c', h1, h2⟩
    · obtain ⟨a, b, e1, e2, e3⟩ := enc_split cls hc s a' B h2
      exact ⟨x :: a, b, by rw [e1]; rfl, by rw [h1, e2]; rfl, e3⟩
    · cases c' with
      | nil =>
        obtain ⟨a, b, e1, e2, e3⟩ := enc_split cls hc s [] B h2.symm
        rw [List.append_nil] at h1
        refine ⟨x :: a, b, by rw [e1]; rfl, ?_, e3⟩
        show A = enc cls x.toNat ++ encAll cls a
        rw [← e2, h1, List.append_nil]
      | cons y c'' =>
        injection h2 with h2 h3
        subst h2
        obtain ⟨e1, e2⟩ := enc_mem hc (show c ∈ enc cls x.toNat by rw [h1]; simp)
        rw [e2] at h1
        have hA : A = [] ∧ c'' = [] := by
          cases A with
          | nil => injection h1 with _ h; exact ⟨rfl, h.symm⟩
          | cons z A => injection h1 with _ h; simp at h
        exact ⟨[], s, by rw [e1]; rfl, hA.1, by rw [h3, hA.2]; rfl⟩
theorem br_39 {c : UInt8} (hc : Br c) : c ≠ 39 := by rcases hc with rfl | rfl <;> decide
theorem br_32 {c : UInt8} (hc : Br c) : c ≠ 32 := by rcases hc with rfl | rfl <;> decide
theorem lit_chg {s : List UInt8} {i : Nat} {c : UInt8} (hc : Br c) (h : (litL s)[i]? = some c) : ∃ a b, s = a ++ c :: b ∧ (litL s).set i 32 = litL (a ++ 32 :: b) := by
  obtain ⟨X, Y, h1, _, h3⟩ := set_split h
  rw [h3]
  unfold litL at h1 ⊢
  cases X with
  | nil => injection h1 with h1 _; exact absurd h1.symm (br_39 hc)
  | cons x X =>
    injection h1 with hx h1
    subst hx
    rcases List.append_eq_append_iff.1 h1 with ⟨a', e1, e2⟩ | ⟨c', e1, e2⟩
    · cases a' with
      | nil => injection e2 with e2 _; exact absurd e2.symm (br_39 hc)
      | cons z a' => injection e2 with _ e2; simp at e2
    · cases c' with
      | nil => injection e2 with e2 _; exact absurd e2 (br_39 hc)
      | cons z c' =>
        injection e2 with e2 e3
        subst e2
        obtain ⟨a, b, f1, f2, f3⟩ := enc_split false hc s X c' e1
        refine ⟨a, b, f1, ?_⟩
        rw [encAll_app, e3, f2, f3]
        show _ = 39 :: (encAll false a ++ (enc false 32 ++ encAll false b) ++ [39])
        rw [enc_32]
        simp
end Go.Proofs.YtndhbdbfjkmloaaDoor
namespace Go.Proofs.YtndhbdbfjkmloaaDoor
open Go.RowKit

/-- the text of one byte of a class -/
structure ElC (E : List UInt8) (v : Nat) : Prop where
  nx : nextN sgC E = (v, E.length)
  n93 : bt E 0 ≠ 93
  n45 : bt E 0 ≠ 45
  n94 : bt E 0 ≠ 94
  pos : 0 < E.length
  lt : v < 256
theorem el_enc {n : Nat} (h : n < 256) : ElC (enc true n) n := by
  obtain ⟨h1, h2, h3, h4, h5⟩ := enc_c n h
  exact ⟨h1, h2, h3, h4, h5, h⟩
theorem el_32 : ElC [32] 32 := ⟨by decide, by decide, by decide, by decide, by decide, by decide⟩
theorem ElC.ne {E : List UInt8} {v : Nat} (h : ElC E v) : E ≠ [] := fun e => by have := h.pos; rw [e] at this; simp at this
theorem ElC.app {E : List UInt8} {v : Nat} (h : ElC E v) (t : List UInt8) : nextN sgC (E ++ t) = (v, E.length) := by
  rw [nextN_app (by rw [h.nx]; have := h.pos; simp only; omega) h.ne, h.nx]
theorem unc_oneE (f : Nat) {E : List UInt8} {b : Nat} (H : ElC E b) (t : List UInt8) (ht : bt t 0 ≠ 45) (acc : List Nat) :
    unc (f + 1) (E ++ t) acc = (unc f t (orW acc (rangeL b 1))).map fun x => (x.1, E.length + x.2) := by
  have h5 := H.pos
  rw [unc_step f acc (by simp [H.ne]) (by rw [bt_app h5]; exact H.n93) (H.app t) (by omega), List.drop_left, if_neg (fun h => ht h.2.1)]
theorem unc_twoE (f : Nat) {E F : List UInt8} {b h : Nat} (H : ElC E b) (K : ElC F h) (t : List UInt8) (acc : List Nat) :
    unc (f + 1) (E ++ 45 :: (F ++ t)) acc = if h < b then none else (unc f t (orW acc (rangeL b (h + 1 - b)))).map fun x => (x.1, E.length + 1 + F.length + x.2) := by
  have h5 := H.pos
  have k5 := K.pos
  have d1 : (E ++ 45 :: (F ++ t)).drop (E.length + 1) = F ++ t := by
    rw [← List.drop_drop, List.drop_left]; rfl
  have d2 : (E ++ 45 :: (F ++ t)).drop (E.length + 1 + F.length) = t := by
    rw [← List.drop_drop, d1, List.drop_left]
  rw [unc_step f acc (by simp) (by rw [bt_app h5]; exact H.n93) (H.app _) (by omega), List.drop_left, if_pos, d1, K.app]
  · dsimp only
    by_cases hb : h < b
    · rw [if_pos (.inr hb), if_pos hb]
    · rw [if_neg (by omega), if_neg hb, d2]
  · refine ⟨by simp; omega, rfl, ?_⟩
    have : bt (45 :: (F ++ t)) 1 = bt (F ++ t) 0 := rfl
    rw [this, bt_app k5]
    exact K.n93
inductive It where
  | one (E : List UInt8) (b : Nat)
  | rng (E : List UInt8) (lo : Nat) (F : List UInt8) (hi : Nat)
def It.text : It → List UInt8
  | .one E _ => E
  | .rng E _ F _ => E ++ 45 :: F
def It.ok : It → Prop
  | .one E b => ElC E b
  | .rng E lo F hi => ElC E lo ∧ ElC F hi
def It.cov (j : Nat) : It → Prop
  | .one _ b => j = b
  | .rng _ lo _ hi => lo ≤ j ∧ j ≤ hi
def It.bad : It → Prop
  | .one _ _ => False
  | .rng _ lo _ hi => hi < lo
def itT : List It → List UInt8
  | [] => []
  | x :: xs => x.text ++ itT xs
theorem it_head {its : List It} (h : ∀ x ∈ its, x.ok) (r : List UInt8) : bt (itT its ++ 93 :: r) 0 ≠ 45 ∧ bt (itT its ++ 93 :: r) 0 ≠ 94 := by
  cases its with
  | nil => exact ⟨(by decide : (93 : Nat) ≠ 45), (by decide : (93 : Nat) ≠ 94)⟩
  | cons x xs =>
    have hx := h x (.head _)
    cases x with
    | one E b =>
      have hx : ElC E b := hx
      rw [itT, List.append_assoc, It.text, bt_app hx.pos]; exact ⟨hx.n45, hx.n94⟩
    | rng E lo F hi =>
      have hx : ElC E lo := hx.1
      rw [itT, List.append_assoc, It.text, List.append_assoc, bt_app hx.pos]; exact ⟨hx.n45, hx.n94⟩
theorem it_pos {x : It} (h : x.ok) : 0 < x.text.length := by
  cases x with
  | one E b => exact (show ElC E b from h).pos
  | rng E lo F hi => show 0 < (E ++ 45 :: F).length; rw [List.length_append, List.length_cons]; omega
theorem it_len {its : List It} (h : ∀ x ∈ its, x.ok) : its.length ≤ (itT its).length := by
  induction its with
  | nil => exact Nat.le_refl _
  | cons x xs ih =>
    have := it_pos (h x (.head _))
    have := ih fun y hy => h y (.tail _ hy)
    rw [itT, List.length_append, List.length_cons]; omega
theorem ex_cons {P : It → Prop} {x : It} {xs : List It} : (∃ y ∈ x :: xs, P y) ↔ P x ∨ ∃ y ∈ xs, P y :=
  ⟨fun ⟨y, hy, h⟩ => by
    rcases List.mem_cons.1 hy with rfl | hy
    · exact .inl h
    · exact .inr ⟨y, hy, h⟩, fun h => by
    rcases h with h | ⟨y, hy, h⟩
    · exact ⟨x, .head _, h⟩
    · exact ⟨y, .tail _ hy, h⟩⟩
theorem cov_one {j : Nat} {E : List UInt8} {b : Nat} : (It.one E b).cov j ↔ j = b := Iff.rfl
theorem cov_rng {j : Nat} {E F : List UInt8} {lo hi : Nat} : (It.rng E lo F hi).cov j ↔ lo ≤ j ∧ j ≤ hi := Iff.rfl
theorem unc_good (r : List UInt8) : ∀ (its : List It), (∀ x ∈ its, x.ok) → (∀ x ∈ its, ¬ x.bad) → ∀ (f : Nat) (acc : List Nat), its.length < f →
    ∃ w, unc f (itT its ++ 93 :: r) acc = some (w, (itT its).length + 1) ∧ ∀ j, j < 256 → (hasN w j = true ↔ hasN acc j = true ∨ ∃ x ∈ its, x.cov j)
  | [], _, _, 0, acc, h => by simp at h
  | [], _, _, f + 1, acc, _ => ⟨acc, by rw [unc.eq_def]; rfl, fun j hj => by simp⟩
  | x :: xs, _, _, 0, acc, h => by simp at h
  | x :: xs, hok, hb, f + 1, acc, hf => by
    have hx := hok x (.head _)
    have hbx := hb x (.head _)
    have ih := fun acc => unc_good r xs (fun y hy => hok y (.tail _ hy)) (fun y hy => hb y (.tail _ hy)) f acc (by simp at hf; omega)
    have hh := it_head (fun y hy => hok y (.tail _ hy)) r
    cases x with
    | one E b =>
      have hx : ElC E b := hx
      obtain ⟨w, h1, h2⟩ := ih (orW acc (rangeL b 1))
      refine ⟨w, ?_, fun j hj => ?_⟩
      · rw [itT, List.append_assoc, It.text, unc_oneE f hx _ hh.1, h1]
        simp; omega
      · rw [h2 j hj, orW_has _ _ hj, rangeL_has b 1 (by have := hx.lt; omega) j hj]
        rw [ex_cons]
        simp only [Bool.or_eq_true, decide_eq_true_iff, cov_one]
        constructor
        · rintro ((h | h) | h)
          · exact .inl h
          · exact .inr (.inl (by omega))
          · exact .inr (.inr h)
        · rintro (h | h | h)
          · exact .inl (.inl h)
          · exact .inl (.inr (by omega))
          · exact .inr h
    | rng E lo F hi =>
      obtain ⟨hx, hy⟩ : ElC E lo ∧ ElC F hi := hx
      have hlh : ¬ hi < lo := hbx
      obtain ⟨w, h1, h2⟩ := ih (orW acc (rangeL lo (hi + 1 - lo)))
      refine ⟨w, ?_, fun j hj => ?_⟩
      · rw [itT, List.append_assoc, It.text, List.append_assoc, List.cons_append, unc_twoE f hx hy, if_neg hlh, h1]
        simp; omega
      · rw [h2 j hj, orW_has _ _ hj, rangeL_has lo _ (by have := hy.lt; omega) j hj]
        rw [ex_cons]
        simp only [Bool.or_eq_true, decide_eq_true_iff, cov_rng]
        constructor
        · rintro ((h | h) | h)
          · exact .inl h
          · exact .inr (.inl (by omega))
          · exact .inr (.inr h)
        · rintro (h | h | h)
          · exact .inl (.inl h)
          · exact .inl (.inr (by omega))
          · exact .inr h
theorem unc_badI (r : List UInt8) : ∀ (its : List It), (∀ x ∈ its, x.ok) → (∃ x ∈ its, x.bad) → ∀ (f : Nat) (acc : List Nat), unc f (itT its ++ 93 :: r) acc = none
  | [], _, ⟨_, h, _⟩, _, _ => by cases h
  | _ :: _, _, _, 0, _ => rfl
  | x :: xs, hok, ⟨y, hy, hb⟩, f + 1, acc => by
    have hx := hok x (.head _)
    have hh := it_head (fun y hy => hok y (.tail _ hy)) r
    cases x with
    | one E b =>
      have hx : ElC E b := hx
      have hy' : y ∈ xs := by
        rcases List.mem_cons.1 hy with rfl | hy
        · exact hb.elim
        · exact hy
      rw [itT, List.append_assoc, It.text, unc_oneE f hx _ hh.1, unc_badI r xs (fun y hy => hok y (.tail _ hy)) ⟨y, hy', hb⟩ f _]
      rfl
    | rng E lo F hi =>
      obtain ⟨hx, hx2⟩ : ElC E lo ∧ ElC F hi := hx
      rw [itT, List.append_assoc, It.text, List.append_assoc, List.cons_append, unc_twoE f hx hx2]
      by_cases hlh : hi < lo
      · rw [if_pos hlh]
      · rw [if_neg hlh]
        have hy' : y ∈ xs := by
          rcases List.mem_cons.1 hy with rfl | hy
          · exact absurd hb hlh
          · exact hy
        rw [unc_badI r xs (fun y hy => hok y (.tail _ hy)) ⟨y, hy', hb⟩ f _]
        rfl
/-- a class of items as a sign -/
theorem tok_its {its : List It} (hok : ∀ x ∈ its, x.ok) (hb : ∀ x ∈ its, ¬ x.bad) : ∃ w, w.length = 4 ∧ Words w ∧ (∀ j, j < 256 → (hasN w j = true ↔ ∃ x ∈ its, x.cov j)) ∧
    ∀ r, tokL ((91 :: itT its ++ [93]) ++ r) = .nd (eSet w) (91 :: itT its ++ [93]).length ∧ Solid ((91 :: itT its ++ [93]) ++ r) := by
  obtain ⟨w, h1, h2⟩ := unc_good [] its hok hb (its.length + 1) [0, 0, 0, 0] (Nat.lt_succ_self _)
  have hz : Words [0, 0, 0, 0] := fun i => by rcases i with _ | _ | _ | _ | i <;> simp
  obtain ⟨_, _, h3, h4⟩ := unc_bd _ _ _ _ _ rfl hz h1
  have h0 : ∀ j, j < 256 → hasN [0, 0, 0, 0] j = false := by
    intro j hj
    unfold hasN
    rcases (by omega : j / 64 = 0 ∨ j / 64 = 1 ∨ j / 64 = 2 ∨ j / 64 = 3) with h | h | h | h <;> rw [h] <;> simp
  refine ⟨w, h3, h4, fun j hj => by rw [h2 j hj, h0 j hj]; simp, fun r => ?_⟩
  have e : (91 :: itT its ++ [93]) ++ r = 91 :: (itT its ++ 93 :: r) := by simp
  rw [e]
  refine ⟨?_, solid_cons (by decide)⟩
  have hh := it_head hok r
  have hlen := it_len hok
  obtain ⟨w', g1, g2⟩ := unc_good r its hok hb ((itT its ++ 93 :: r).length + 2) [0, 0, 0, 0] (by simp; omega)
  have hw' : w' = w := by
    obtain ⟨_, _, h3', h4'⟩ := unc_bd _ _ _ _ _ rfl hz g1
    refine words_eq h3' h3 h4' h4 fun j hj => ?_
    rw [Bool.eq_iff_iff, g2 j hj, h2 j hj]
  rw [tokL, if_neg (by decide), if_pos rfl, if_neg hh.2, g1, hw']
  simp
theorem tok_itsB {its : List It} (hok : ∀ x ∈ its, x.ok) (hb : ∃ x ∈ its, x.bad) (r : List UInt8) : tokL ((91 :: itT its ++ [93]) ++ r) = .bad ∧ Solid ((91 :: itT its ++ [93]) ++ r) := by
  have e : (91 :: itT its ++ [93]) ++ r = 91 :: (itT its ++ 93 :: r) := by simp
  rw [e]
  refine ⟨?_, solid_cons (by decide)⟩
  rw [tokL, if_neg (by decide), if_pos rfl, if_neg (it_head hok r).2, unc_badI r its hok hb]
theorem eSet_has {w w' : List Nat} (h : eSet w = eSet w') {j : Nat} (hj : j < 256) : hasN w j = hasN w' j := by
  unfold eSet at h
  injection h with _ h0 h1 h2 h3
  unfold hasN
  rcases (by omega : j / 64 = 0 ∨ j / 64 = 1 ∨ j / 64 = 2 ∨ j / 64 = 3) with h | h | h | h <;> rw [h]
  · rw [Int.ofNat.inj h0]
  · rw [Int.ofNat.inj h1]
  · rw [Int.ofNat.inj h2]
  · rw [Int.ofNat.inj h3]
end Go.Proofs.YtndhbdbfjkmloaaDoor
namespace Go.Proofs.YtndhbdbfjkmloaaDoor
open Go.RowKit

inductive Its (l : List Nat) : Nat → List It → Prop where
  | nil (f : Nat) : Its l f []
  | one (f b : Nat) (its : List It) : f ≤ b → b < 256 → hasN l b = true → Its l (b + 1) its → Its l f (.one (enc true b) b :: its)
  | rng (f lo hi : Nat) (its : List It) : f ≤ lo → lo + 2 ≤ hi → hi < 256 → (∀ j, lo ≤ j → j ≤ hi → hasN l j = true) → (0 < lo → hasN l (lo - 1) = false) → (hi < 255 → hasN l (hi + 1) = false) → Its l (hi + 1) its →
      Its l f (.rng (enc true lo) lo (enc true hi) hi :: its)
theorem its_cls (l : List Nat) : ∀ (k f : Nat), f ≤ 256 → (f = 0 ∨ f = 256 ∨ hasN l f = false) → ∃ its, clsT l k (fstB l f) = itT its ∧ Its l f its
  | 0, f, _, _ => ⟨[], by rw [clsT]; rfl, .nil _⟩
  | k + 1, f, hf, hz => by
    rcases fstB_is l f hf with ⟨b, e, h1, h2, h3, h4⟩ | ⟨e, _⟩
    · rw [e, clsT, if_neg (by omega), show (b : Int).toNat = b from rfl]
      obtain ⟨r1, r2, r3, r4⟩ := runB_is l b (by omega)
      generalize runB l b = h at r1 r2 r3 r4 ⊢
      obtain ⟨its, i1, i2⟩ := its_cls l k (h + 1) (by omega) (by
        rcases Nat.lt_or_ge h 255 with hh | hh
        · exact .inr (.inr (r4 hh))
        · exact .inr (.inl (by omega)))
      rw [i1]
      unfold piece
      rcases (by omega : h = b ∨ h = b + 1 ∨ b + 2 ≤ h) with rfl | rfl | hh
      · exact ⟨.one (enc true h) h :: its, by rw [if_neg (by omega), if_neg (by omega)]; simp [itT, It.text], .one _ _ _ h1 h2 h3 i2⟩
      · exact ⟨.one (enc true b) b :: .one (enc true (b + 1)) (b + 1) :: its, by rw [if_pos rfl]; simp [itT, It.text], .one _ _ _ h1 h2 h3 (.one _ _ _ (Nat.le_refl _) (by omega) (r3 _ (by omega) (Nat.le_refl _)) i2)⟩
      · refine ⟨.rng (enc true b) b (enc true h) h :: its, by rw [if_neg (by omega), if_pos (by omega)]; simp [itT, It.text], .rng _ _ _ _ h1 hh (by omega) (fun j j1 j2 => ?_) (fun hb => ?_) r4 i2⟩
        · rcases Nat.eq_or_lt_of_le j1 with rfl | j1
          · exact h3
          · exact r3 j j1 j2
        · rcases Nat.eq_or_lt_of_le h1 with rfl | h1
          · rcases hz with hz | hz | hz
            · omega
            · omega
            · rw [hz] at h3; cases h3
          · exact h4 _ (by omega) (by omega)
    · rw [e, clsT, if_pos (by decide)]
      exact ⟨[], rfl, .nil _⟩
theorem Its.ge {l : List Nat} {f : Nat} {its : List It} (h : Its l f its) : ∀ x ∈ its, ∀ j, x.cov j → f ≤ j := by
  induction h with
  | nil => intro x hx; cases hx
  | one f b its h1 _ _ _ ih =>
    intro x hx j hj
    rcases List.mem_cons.1 hx with rfl | hx
    · rw [cov_one] at hj; omega
    · have := ih x hx j hj; omega
  | rng f lo hi its h1 h2 _ _ _ _ _ ih =>
    intro x hx j hj
    rcases List.mem_cons.1 hx with rfl | hx
    · rw [cov_rng] at hj; omega
    · have := ih x hx j hj; omega
/-- an item and what stands behind it -/
theorem Its.tail {l : List Nat} {f : Nat} {x : It} {its : List It} (h : Its l f (x :: its)) : ∃ f', Its l f' its ∧ ∀ j, x.cov j → j < f' := by
  cases h with
  | one _ b _ h1 h2 h3 h4 => exact ⟨_, h4, fun j hj => by rw [cov_one] at hj; omega⟩
  | rng _ lo hi _ h1 h2 h3 h4 h5 h6 h7 => exact ⟨_, h7, fun j hj => by rw [cov_rng] at hj; omega⟩
/-- no two items cover one byte -/
theorem Its.apart {l : List Nat} {it : It} {Q : List It} {j : Nat} (hj : it.cov j) : ∀ (P : List It) (f : Nat), Its l f (P ++ it :: Q) → ∀ x ∈ P ++ Q, ¬ x.cov j
  | [], f, h => fun x hx hc => by
    obtain ⟨f', h1, h2⟩ := h.tail
    have := h1.ge x hx j hc
    have := h2 j hj
    omega
  | p :: P, f, h => fun x hx hc => by
    obtain ⟨f', h1, h2⟩ := h.tail
    rcases List.mem_cons.1 hx with rfl | hx
    · have := h1.ge it (by simp) j hj
      have := h2 j hc
      omega
    · exact Its.apart hj P f' h1 x hx hc
theorem Its.ok {l : List Nat} {f : Nat} {its : List It} (h : Its l f its) : ∀ x ∈ its, x.ok ∧ ¬ x.bad := by
  induction h with
  | nil => intro x hx; cases hx
  | one f b its _ h2 _ _ ih =>
    intro x hx
    rcases List.mem_cons.1 hx with rfl | hx
    · exact ⟨el_enc h2, fun h => h⟩
    · exact ih x hx
  | rng f lo hi its _ h2 h3 _ _ _ _ ih =>
    intro x hx
    rcases List.mem_cons.1 hx with rfl | hx
    · exact ⟨⟨el_enc (by omega), el_enc h3⟩, fun h => by have h : hi < lo := h; omega⟩
    · exact ih x hx
/-- what an item says of the set -/
inductive ItSays (l : List Nat) : It → Prop where
  | one (b : Nat) : b < 256 → hasN l b = true → ItSays l (.one (enc true b) b)
  | rng (lo hi : Nat) : lo + 2 ≤ hi → hi < 256 → (∀ j, lo ≤ j → j ≤ hi → hasN l j = true) → (0 < lo → hasN l (lo - 1) = false) → (hi < 255 → hasN l (hi + 1) = false) → ItSays l (.rng (enc true lo) lo (enc true hi) hi)
theorem Its.says {l : List Nat} {f : Nat} {its : List It} (h : Its l f its) : ∀ x ∈ its, ItSays l x := by
  induction h with
  | nil => intro x hx; cases hx
  | one f b its _ h2 h3 _ ih =>
    intro x hx
    rcases List.mem_cons.1 hx with rfl | hx
    · exact .one _ h2 h3
    · exact ih x hx
  | rng f lo hi its _ h2 h3 h4 h5 h6 _ ih =>
    intro x hx
    rcases List.mem_cons.1 hx with rfl | hx
    · exact .rng _ _ h2 h3 h4 h5 h6
    · exact ih x hx
/-- a text of a byte: as it is printed, or the blank that was put in -/
def EncE (E : List UInt8) (v : Nat) : Prop := (v < 256 ∧ E = enc true v) ∨ (E = [32] ∧ v = 32)
theorem EncE.has {E : List UInt8} {v : Nat} (h : EncE E v) {c : UInt8} (hc : Br c) {A B : List UInt8} (hE : E = A ++ c :: B) : E = [c] ∧ v = c.toNat ∧ A = [] ∧ B = [] := by
  have hm : c ∈ E := by rw [hE]; simp
  have he : E = [c] ∧ v = c.toNat := by
    rcases h with ⟨hv, rfl⟩ | ⟨rfl, _⟩
    · obtain ⟨h1, h2⟩ := enc_br true ⟨v, hv⟩ c hm hc
      exact ⟨h2, h1.symm⟩
    · rw [List.mem_singleton] at hm; exact absurd hm (br_32 hc)
  refine ⟨he.1, he.2, ?_⟩
  rw [he.1] at hE
  cases A with
  | nil => injection hE with _ h; exact ⟨rfl, h.symm⟩
  | cons z A => injection hE with _ h; simp at h
def It.enc : It → Prop
  | .one E b => EncE E b
  | .rng E lo F hi => EncE E lo ∧ EncE F hi
theorem ItSays.enc {l : List Nat} {x : It} (h : ItSays l x) : x.enc := by
  cases h with
  | one b h _ => exact .inl ⟨h, rfl⟩
  | rng lo hi h1 h2 => exact ⟨.inl ⟨by omega, rfl⟩, .inl ⟨h2, rfl⟩⟩
/-- a bracket at an item's end made a blank -/
inductive ChI (c : UInt8) : It → It → Prop where
  | one : ChI c (.one [c] c.toNat) (.one [32] 32)
  | lo (F : List UInt8) (hi : Nat) : ChI c (.rng [c] c.toNat F hi) (.rng [32] 32 F hi)
  | hi (E : List UInt8) (lo : Nat) : ChI c (.rng E lo [c] c.toNat) (.rng E lo [32] 32)
theorem its_split {c : UInt8} (hc : Br c) : ∀ (its : List It) (A B : List UInt8), (∀ x ∈ its, x.enc) → itT its = A ++ c :: B → ∃ P it it' Q, its = P ++ it :: Q ∧ ChI c it it' ∧ A ++ 32 :: B = itT (P ++ it' :: Q)
  | [], A, B, _, h => by
    have := congrArg List.length h
    simp [itT] at this
  | x :: xs, A, B, he, h => by
    rw [itT] at h
    rcases List.append_eq_append_iff.1 h with ⟨a', h1, h2⟩ | ⟨c', h1, h2⟩
    · obtain ⟨P, it, it', Q, e1, e2, e3⟩ := its_split hc xs a' B (fun y hy => he y (.tail _ hy)) h2
      exact ⟨x :: P, it, it', Q, by rw [e1]; rfl, e2, by rw [h1, List.append_assoc, e3]; rfl⟩
    · cases c' with
      | nil =>
        obtain ⟨P, it, it', Q, e1, e2, e3⟩ := its_split hc xs [] B (fun y hy => he y (.tail _ hy)) h2.symm
        rw [List.append_nil] at h1
        exact ⟨x :: P, it, it', Q, by rw [e1]; rfl, e2, by rw [← h1, List.cons_append, itT, ← e3]; rfl⟩
      | cons y c'' =>
        injection h2 with h2 h3
        subst h2
        have hx := he x (.head _)
        cases x with
        | one E b =>
          obtain ⟨e1, e2, e3, e4⟩ := EncE.has hx hc h1
          subst e1 e2 e3 e4
          exact ⟨[], _, _, xs, rfl, .one, by rw [h3]; rfl⟩
        | rng E lo F hi =>
          obtain ⟨hx, hy⟩ : EncE E lo ∧ EncE F hi := hx
          have h1 : E ++ 45 :: F = A ++ c :: c'' := h1
          rcases List.append_eq_append_iff.1 h1 with ⟨a', f1, f2⟩ | ⟨d', f1, f2⟩
          · cases a' with
            | nil => injection f2 with f2 _; rcases hc with rfl | rfl <;> cases f2
            | cons z a' =>
              injection f2 with f2 f3
              subst f2
              obtain ⟨e1, e2, e3, e4⟩ := EncE.has hy hc f3
              subst e1 e2 e3 e4
              refine ⟨[], _, _, xs, rfl, .hi E lo, ?_⟩
              rw [f1, h3]; simp [itT, It.text]
          · cases d' with
            | nil => injection f2 with f2 _; rcases hc with rfl | rfl <;> cases f2
            | cons z d' =>
              injection f2 with f2 f3
              subst f2
              obtain ⟨e1, e2, e3, e4⟩ := EncE.has hx hc f1
              subst e1 e2 e3 e4
              refine ⟨[], _, _, xs, rfl, .lo F hi, ?_⟩
              rw [h3, f3]; simp [itT, It.text]
end Go.Proofs.YtndhbdbfjkmloaaDoor
namespace Go.Proofs.YtndhbdbfjkmloaaDoor
open Go.RowKit

theorem says_one {l : List Nat} {E : List UInt8} {b : Nat} (h : ItSays l (.one E b)) : hasN l b = true := by
  generalize hx : It.one E b = x at h
  cases h with
  | one b' _ h => injection hx with _ e; rw [e]; exact h
  | rng => cases hx
theorem says_rng {l : List Nat} {E F : List UInt8} {lo hi : Nat} (h : ItSays l (.rng E lo F hi)) : lo + 2 ≤ hi ∧ hi < 256 ∧ (∀ j, lo ≤ j → j ≤ hi → hasN l j = true) ∧ (0 < lo → hasN l (lo - 1) = false) ∧ (hi < 255 → hasN l (hi + 1) = false) := by
  generalize hx : It.rng E lo F hi = x at h
  cases h with
  | one => cases hx
  | rng lo' hi' h1 h2 h3 h4 h5 => injection hx with _ e1 _ e2; subst e1 e2; exact ⟨h1, h2, h3, h4, h5⟩
theorem mem_mid {α : Type} {P Q : List α} {y x : α} (h : x ∈ P ++ y :: Q) : x = y ∨ x ∈ P ++ Q := by
  simp at h ⊢
  rcases h with h | h | h
  · exact .inr (.inl h)
  · exact .inl h
  · exact .inr (.inr h)
theorem mem_mid' {α : Type} {P Q : List α} {y x : α} (h : x ∈ P ++ Q) : x ∈ P ++ y :: Q := by
  simp at h ⊢
  rcases h with h | h
  · exact .inl h
  · exact .inr (.inr h)
theorem clsAll_its {w : List Nat} : ∃ its, clsAll w = 91 :: (itT its ++ [93]) ∧ Its w 0 its := by
  obtain ⟨its, h1, h2⟩ := its_cls w 257 0 (by omega) (.inl rfl)
  exact ⟨its, by unfold clsAll; rw [h1]; rfl, h2⟩
theorem br_nat {c : UInt8} (hc : Br c) : c.toNat = 40 ∨ c.toNat = 41 := by rcases hc with rfl | rfl <;> simp
theorem ChI.ok {c : UInt8} {x y : It} (h : ChI c x y) (hx : x.ok) : y.ok := by
  cases h with
  | one => exact el_32
  | lo F hi => exact ⟨el_32, hx.2⟩
  | hi E lo => exact ⟨hx.1, el_32⟩
theorem ChI.enc {c : UInt8} {x y : It} (h : ChI c x y) (hx : x.enc) : y.enc := by
  cases h with
  | one => exact .inr ⟨rfl, rfl⟩
  | lo F hi => exact ⟨.inr ⟨rfl, rfl⟩, hx.2⟩
  | hi E lo => exact ⟨hx.1, .inr ⟨rfl, rfl⟩⟩
/-- one bracket made a blank: the set is another -/
theorem cls_one {w w' : List Nat} {P Q : List It} {it it' : It} {c : UInt8} (hc : Br c) (hI : Its w 0 (P ++ it :: Q)) (hch : ChI c it it') (hb : ¬ it'.bad)
    (hw' : ∀ j, j < 256 → (hasN w' j = true ↔ ∃ x ∈ P ++ it' :: Q, x.cov j)) : ∃ j, j < 256 ∧ hasN w' j ≠ hasN w j := by
  have hs := hI.says it (by simp)
  have hn := br_nat hc
  have no : it.cov c.toNat → ¬ it'.cov c.toNat → hasN w' c.toNat ≠ true := fun h1 h2 h => by
    obtain ⟨x, hx, hj⟩ := (hw' _ (by omega)).1 h
    rcases mem_mid hx with rfl | hx
    · exact h2 hj
    · exact hI.apart h1 P 0 x hx hj
  cases hch with
  | one =>
    refine ⟨c.toNat, by omega, ?_⟩
    rw [says_one hs]
    exact no rfl (by rw [cov_one]; omega)
  | lo F hi =>
    obtain ⟨h1, h2, h3, h4, h5⟩ := says_rng hs
    refine ⟨c.toNat - 1, by omega, ?_⟩
    rw [h4 (by omega), (hw' _ (by omega)).2 ⟨.rng [32] 32 F hi, by simp, by rw [cov_rng]; omega⟩]
    decide
  | hi E lo =>
    obtain ⟨h1, h2, h3, h4, h5⟩ := says_rng hs
    refine ⟨c.toNat, by omega, ?_⟩
    rw [h3 _ (by omega) (Nat.le_refl _)]
    exact no (by rw [cov_rng]; omega) (by rw [cov_rng]; omega)
/-- both brackets -/
theorem cls_two {w w' : List Nat} {P Q P2 Q2 : List It} {it it' it2 it2' : It} (hI : Its w 0 (P ++ it :: Q)) (hch : ChI 40 it it') (he : P ++ it' :: Q = P2 ++ it2 :: Q2) (hch2 : ChI 41 it2 it2')
    (hw' : ∀ j, j < 256 → (hasN w' j = true ↔ ∃ x ∈ P2 ++ it2' :: Q2, x.cov j)) : ∃ j, j < 256 ∧ hasN w' j ≠ hasN w j := by
  have e40 : (40 : UInt8).toNat = 40 := rfl
  have e41 : (41 : UInt8).toNat = 41 := rfl
  have hs := hI.says it (by simp)
  have h2m : it2 ∈ P ++ it' :: Q := by rw [he]; simp
  rcases mem_mid h2m with rfl | h2m
  · exfalso
    generalize h41 : (41 : UInt8) = c41 at hch2
    cases hch with
    | one => cases hch2; cases h41
    | lo F hi =>
      obtain ⟨h1, _⟩ := says_rng hs
      cases hch2 with
      | lo => cases h41
      | hi => subst h41; omega
    | hi E lo =>
      obtain ⟨h1, _⟩ := says_rng hs
      cases hch2 with
      | lo => subst h41; omega
      | hi => cases h41
  · have hs2 := hI.says it2 (mem_mid' h2m)
    have ap := fun j hj => hI.apart (j := j) hj P 0 it2 h2m
    have c41 : it2.cov 41 := by
      cases hch2 with
      | one => rfl
      | lo F hi => obtain ⟨h1, _⟩ := says_rng hs2; rw [cov_rng]; omega
      | hi E lo => obtain ⟨h1, _⟩ := says_rng hs2; rw [cov_rng]; omega
    have w41 : hasN w 41 = true := by
      cases hch2 with
      | one => exact says_one hs2
      | lo F hi => obtain ⟨h1, _, h3, _⟩ := says_rng hs2; exact h3 _ (by omega) (by omega)
      | hi E lo => obtain ⟨h1, _, h3, _⟩ := says_rng hs2; exact h3 _ (by omega) (by omega)
    cases hch with
    | lo F hi =>
      obtain ⟨h1, _⟩ := says_rng hs
      exact absurd c41 (ap 41 (by rw [cov_rng]; omega))
    | hi E lo =>
      obtain ⟨_, _, _, _, h5⟩ := says_rng hs
      have := h5 (by omega)
      rw [e40, w41] at this
      cases this
    | one =>
      have w40 : hasN w 40 = true := says_one hs
      have no40 := ap 40 rfl
      refine ⟨40, by omega, ?_⟩
      rw [w40]
      intro h
      obtain ⟨x, hx, hj⟩ := (hw' 40 (by omega)).1 h
      rcases mem_mid hx with rfl | hx
      · cases hch2 with
        | one => rw [cov_one] at hj; omega
        | lo F hi =>
          obtain ⟨_, _, _, h4, _⟩ := says_rng hs2
          have := h4 (by omega)
          rw [e41, w40] at this
          cases this
        | hi E lo => rw [cov_rng] at hj; obtain ⟨h1, _⟩ := says_rng hs2; exact no40 (by rw [cov_rng]; omega)
      · have hx : x ∈ P ++ .one [32] 32 :: Q := by rw [he]; exact mem_mid' hx
        rcases mem_mid hx with rfl | hx
        · rw [cov_one] at hj; omega
        · exact hI.apart (show (It.one [40] (40 : UInt8).toNat).cov 40 from rfl) P 0 x hx hj
end Go.Proofs.YtndhbdbfjkmloaaDoor
namespace Go.Proofs.YtndhbdbfjkmloaaDoor
open Go.RowKit

/-- what a bracket made a blank does to a piece -/
inductive ChgP : Pc → Pc → Prop where
  | sg (c : UInt8) : Br c → ChgP (.sg c) .bl
  | nd (e : Ex) (t : List UInt8) (e' : Ex) (t' : List UInt8) : LeafP e' t' → e' ≠ e → ChgP (.nd e t) (.nd e' t')
  | bd (e : Ex) (t t' : List UInt8) : (∀ r, tokL (t' ++ r) = .bad ∧ Solid (t' ++ r)) → ChgP (.nd e t) (.bd t')
theorem wrap_split {o z c : UInt8} (ho : c ≠ o) (hz : c ≠ z) {M X Y : List UInt8} (h : o :: (M ++ [z]) = X ++ c :: Y) : ∃ X' Y', M = X' ++ c :: Y' ∧ ∀ d, X ++ d :: Y = o :: (X' ++ d :: Y' ++ [z]) := by
  cases X with
  | nil => injection h with h _; exact absurd h.symm ho
  | cons x X =>
    injection h with hx h
    subst hx
    rcases List.append_eq_append_iff.1 h with ⟨a', e1, e2⟩ | ⟨c', e1, e2⟩
    · cases a' with
      | nil => injection e2 with e2 _; exact absurd e2.symm hz
      | cons y a' => injection e2 with _ e2; simp at e2
    · cases c' with
      | nil => injection e2 with e2 _; exact absurd e2 hz
      | cons y c' =>
        injection e2 with e2 e3
        subst e2
        exact ⟨X, c', e1, fun d => by rw [e3]; simp⟩
theorem its_tok {its : List It} (hok : ∀ x ∈ its, x.ok) (hb : ∀ x ∈ its, ¬ x.bad) : ∃ w, (∀ j, j < 256 → (hasN w j = true ↔ ∃ x ∈ its, x.cov j)) ∧ LeafP (eSet w) (91 :: (itT its ++ [93])) := by
  obtain ⟨w, _, _, h3, h4⟩ := tok_its hok hb
  exact ⟨w, h3, .raw h4 (show (2 : Int) ≠ 1 by decide)⟩
theorem its_tokB {its : List It} (hok : ∀ x ∈ its, x.ok) (hb : ∃ x ∈ its, x.bad) : ∀ r, tokL ((91 :: (itT its ++ [93])) ++ r) = .bad ∧ Solid ((91 :: (itT its ++ [93])) ++ r) := fun r => by
  have h := tok_itsB hok hb r
  rw [show (91 :: itT its ++ [93] : List UInt8) = 91 :: (itT its ++ [93]) from rfl] at h
  exact h
theorem lit_ne {s s' : List UInt8} (h : s' ≠ s) : eLit s' ≠ eLit s := fun e => h (by
  unfold eLit at e
  injection e with _ _ _ _ _ e
  injection e with e
  have := congrArg Array.toList e
  simpa using this)
theorem cls_ne {w w' : List Nat} (h : ∃ j, j < 256 ∧ hasN w' j ≠ hasN w j) : eSet w' ≠ eSet w := fun e => by
  obtain ⟨j, hj, hne⟩ := h
  exact hne (eSet_has e hj)
theorem no_br_name {t : List UInt8} (h : nameB t = true) {c : UInt8} (hc : Br c) {i : Nat} : t[i]? ≠ some c := fun hi => by
  obtain ⟨_, _, _, _, hall⟩ := name_parts h
  have := hall c (List.mem_of_getElem? hi)
  rcases hc with rfl | rfl <;> exact absurd this (by decide)
theorem no_br_any {c : UInt8} (hc : Br c) {i : Nat} : ([46] : List UInt8)[i]? ≠ some c := fun hi => by
  have := List.mem_of_getElem? hi
  rw [List.mem_singleton] at this
  rcases hc with rfl | rfl <;> cases this
/-- one place -/
theorem chg1 {p : Pc} (hw : p.was) {c : UInt8} (hc : Br c) {i : Nat} (h : p.text[i]? = some c) : ∃ p', p'.text = p.text.set i 32 ∧ ChgP p p' := by
  cases p with
  | bl =>
    have := List.mem_of_getElem? h
    rw [show Pc.bl.text = [32] from rfl, List.mem_singleton] at this
    exact absurd this (br_32 hc)
  | sg d =>
    obtain ⟨X, Y, h1, _, h3⟩ := set_split h
    have h1 : [d] = X ++ c :: Y := h1
    cases X with
    | nil =>
      injection h1 with h1 h2
      subst h1 h2
      exact ⟨.bl, by rw [h3]; rfl, .sg d hc⟩
    | cons x X => injection h1 with _ h1; simp at h1
  | bd t => exact hw.elim
  | nd e t =>
    have hw : LeafO e t := hw
    have h : t[i]? = some c := h
    cases hw with
    | name _ hn => exact absurd h (no_br_name hn hc)
    | any => exact absurd h (no_br_any hc)
    | lit s hs =>
      obtain ⟨a, b, e1, e2⟩ := lit_chg hc h
      refine ⟨.nd (eLit (a ++ 32 :: b)) (litL (a ++ 32 :: b)), e2.symm, .nd _ _ _ _ (.old (.lit _ (by simp))) (lit_ne ?_)⟩
      rw [e1]
      intro e
      have := List.append_cancel_left e
      injection this with this _
      exact br_32 hc this.symm
    | cls w hl hW =>
      obtain ⟨its, t1, t2⟩ := clsAll_its (w := w)
      have h : (clsAll w)[i]? = some c := h
      obtain ⟨X, Y, h1, _, h3⟩ := set_split h
      rw [t1] at h1
      obtain ⟨X', Y', g1, g2⟩ := wrap_split (by rcases hc with rfl | rfl <;> decide) (by rcases hc with rfl | rfl <;> decide) h1
      obtain ⟨P, it, it', Q, k1, k2, k3⟩ := its_split hc its X' Y' (fun x hx => (t2.says x hx).enc) g1
      subst k1
      have hok : ∀ x ∈ P ++ it' :: Q, x.ok := fun x hx => by
        rcases mem_mid hx with rfl | hx
        · exact k2.ok (t2.ok it (by simp)).1
        · exact (t2.ok x (mem_mid' hx)).1
      by_cases hb : it'.bad
      · have hmem : ∃ x ∈ P ++ it' :: Q, x.bad := ⟨it', by simp, hb⟩
        exact ⟨.bd (91 :: (itT (P ++ it' :: Q) ++ [93])), by show _ = (clsAll w).set i 32; rw [h3, g2, k3]; rfl, .bd _ _ _ (its_tokB hok hmem)⟩
      · obtain ⟨w', j1, j2⟩ := its_tok hok fun x hx => by
          rcases mem_mid hx with rfl | hx
          · exact hb
          · exact (t2.ok x (mem_mid' hx)).2
        exact ⟨.nd (eSet w') (91 :: (itT (P ++ it' :: Q) ++ [93])), by show _ = (clsAll w).set i 32; rw [h3, g2, k3]; rfl, .nd _ _ _ _ j2 (cls_ne (cls_one hc t2 k2 hb j1))⟩
/-- two places of one piece -/
theorem chg2 {p : Pc} (hw : p.was) {i k : Nat} (hik : i ≠ k) (h : p.text[i]? = some 40) (hk : p.text[k]? = some 41) : ∃ p', p'.text = (p.text.set i 32).set k 32 ∧ ChgP p p' := by
  have h40 : Br 40 := .inl rfl
  have h41 : Br 41 := .inr rfl
  have hk2 : (p.text.set i 32)[k]? = some 41 := by rw [List.getElem?_set_ne hik]; exact hk
  cases p with
  | bl =>
    have := List.mem_of_getElem? h
    rw [show Pc.bl.text = [32] from rfl, List.mem_singleton] at this
    exact absurd this (by decide)
  | sg d =>
    have e1 := List.mem_of_getElem? h
    have e2 := List.mem_of_getElem? hk
    rw [show (Pc.sg d).text = [d] from rfl, List.mem_singleton] at e1 e2
    rw [← e1] at e2
    cases e2
  | bd t => exact hw.elim
  | nd e t =>
    have hw : LeafO e t := hw
    have h : t[i]? = some 40 := h
    have hk2 : (t.set i 32)[k]? = some 41 := hk2
    cases hw with
    | name _ hn => exact absurd h (no_br_name hn h40)
    | any => exact absurd h (no_br_any h40)
    | lit s hs =>
      have hk2 : ((litL s).set i 32)[k]? = some 41 := hk2
      obtain ⟨a, b, e1, e2⟩ := lit_chg h40 h
      rw [e2] at hk2
      obtain ⟨a2, b2, e3, e4⟩ := lit_chg h41 hk2
      refine ⟨.nd (eLit (a2 ++ 32 :: b2)) (litL (a2 ++ 32 :: b2)), by show _ = ((litL s).set i 32).set k 32; rw [e2, e4]; rfl, .nd _ _ _ _ (.old (.lit _ (by simp))) (lit_ne ?_)⟩
      intro e
      have c1 := congrArg (List.count 40) e
      have c2 := congrArg (List.count 40) e1
      have c3 := congrArg (List.count 40) e3
      simp only [List.count_append, List.count_cons] at c1 c2 c3
      simp at c1 c2 c3
      omega
    | cls w hl hW =>
      obtain ⟨its, t1, t2⟩ := clsAll_its (w := w)
      have h : (clsAll w)[i]? = some 40 := h
      obtain ⟨X, Y, h1, _, h3⟩ := set_split h
      rw [t1] at h1
      obtain ⟨X', Y', g1, g2⟩ := wrap_split (by decide) (by decide) h1
      obtain ⟨P, it, it', Q, k1, k2, k3⟩ := its_split h40 its X' Y' (fun x hx => (t2.says x hx).enc) g1
      subst k1
      have hT : (clsAll w).set i 32 = 91 :: (itT (P ++ it' :: Q) ++ [93]) := by rw [h3, g2, k3]
      have hk2 : ((clsAll w).set i 32)[k]? = some 41 := hk2
      rw [hT] at hk2
      obtain ⟨X2, Y2, m1, _, m3⟩ := set_split hk2
      obtain ⟨X2', Y2', n1, n2⟩ := wrap_split (by decide) (by decide) m1
      have henc : ∀ x ∈ P ++ it' :: Q, x.enc := fun x hx => by
        rcases mem_mid hx with rfl | hx
        · exact k2.enc (t2.says it (by simp)).enc
        · exact (t2.says x (mem_mid' hx)).enc
      have hok : ∀ x ∈ P ++ it' :: Q, x.ok := fun x hx => by
        rcases mem_mid hx with rfl | hx
        · exact k2.ok (t2.ok it (by simp)).1
        · exact (t2.ok x (mem_mid' hx)).1
      obtain ⟨P2, it2, it2', Q2, q1, q2, q3⟩ := its_split h41 _ X2' Y2' henc n1
      have hT2 : ((clsAll w).set i 32).set k 32 = 91 :: (itT (P2 ++ it2' :: Q2) ++ [93]) := by rw [hT, m3, n2, q3]
      have hok2 : ∀ x ∈ P2 ++ it2' :: Q2, x.ok := fun x hx => by
        rcases mem_mid hx with rfl | hx
        · exact q2.ok (hok it2 (by rw [q1]; simp))
        · exact hok x (by rw [q1]; exact mem_mid' hx)
      by_cases hb : ∃ x ∈ P2 ++ it2' :: Q2, x.bad
      · exact ⟨.bd (91 :: (itT (P2 ++ it2' :: Q2) ++ [93])), hT2.symm, .bd _ _ _ (its_tokB hok2 hb)⟩
      · obtain ⟨w', j1, j2⟩ := its_tok hok2 fun x hx hbx => hb ⟨x, hx, hbx⟩
        exact ⟨.nd (eSet w') (91 :: (itT (P2 ++ it2' :: Q2) ++ [93])), hT2.symm, .nd _ _ _ _ j2 (cls_ne (cls_two t2 k2 q1 q2 j1))⟩
end Go.Proofs.YtndhbdbfjkmloaaDoor
namespace Go.Proofs.YtndhbdbfjkmloaaDoor
open Go.RowKit

theorem locate {c : UInt8} : ∀ (P : List Pc) (i : Nat), (flatP P)[i]? = some c → ∃ A p C i', P = A ++ p :: C ∧ i = (flatP A).length + i' ∧ p.text[i']? = some c
  | [], i, h => by simp [flatP] at h
  | p :: P, i, h => by
    rw [flatP] at h
    rcases Nat.lt_or_ge i p.text.length with hi | hi
    · rw [List.getElem?_append_left hi] at h
      exact ⟨[], p, P, i, rfl, by simp [flatP], h⟩
    · rw [List.getElem?_append_right hi] at h
      obtain ⟨A, q, C, i', h1, h2, h3⟩ := locate P (i - p.text.length) h
      exact ⟨p :: A, q, C, i', by rw [h1]; rfl, by rw [flatP, List.length_append]; omega, h3⟩
theorem set_at {A C : List Pc} {p p' : Pc} {i : Nat} {d : UInt8} (hi : i < p.text.length) (h : p'.text = p.text.set i d) : (flatP (A ++ p :: C)).set ((flatP A).length + i) d = flatP (A ++ p' :: C) := by
  rw [flatP_app, flatP_app, flatP, flatP, List.set_append_right _ _ (by omega), show (flatP A).length + i - (flatP A).length = i from by omega, List.set_append_left _ _ hi, h]
theorem lt_of_some {t : List UInt8} {i : Nat} {c : UInt8} (h : t[i]? = some c) : i < t.length := (List.getElem?_eq_some_iff.1 h).1
inductive ChL : List Pc → List Pc → Prop where
  | nil : ChL [] []
  | same (p : Pc) {P P' : List Pc} : ChL P P' → ChL (p :: P) (p :: P')
  | chg {p p' : Pc} {P P' : List Pc} : ChgP p p' → ChL P P' → ChL (p :: P) (p' :: P')
theorem ChL.refl : ∀ P, ChL P P
  | [] => .nil
  | p :: P => .same p (ChL.refl P)
theorem ChL.app {P P' : List Pc} : ∀ A, ChL P P' → ChL (A ++ P) (A ++ P')
  | [], h => h
  | a :: A, h => .same a (h.app A)
theorem ChgP.ok {p p' : Pc} (h : ChgP p p') : p'.ok := by
  cases h with
  | sg => trivial
  | nd _ _ _ _ h _ => exact h
  | bd _ _ _ h => exact h
theorem ChL.sep {P P' : List Pc} (h : ChL P P') (hs : sepP P = true) : sepP P' = true := by
  cases h with
  | nil => rfl
  | same p _ => exact hs
  | chg h _ =>
    cases h with
    | sg => rfl
    | nd => cases hs
    | bd => cases hs
theorem ChL.good {P P' : List Pc} (h : ChL P P') : goodP P → goodP P' := by
  induction h with
  | nil => exact id
  | same p h ih => exact fun hg => ⟨hg.1, fun ho => h.sep (hg.2.1 ho), ih hg.2.2⟩
  | chg hc h ih =>
    intro hg
    refine ⟨hc.ok, fun ho => h.sep (hg.2.1 ?_), ih hg.2.2⟩
    cases hc with
    | sg => cases ho
    | nd => rfl
    | bd => rfl
theorem ChgP.cost {p p' : Pc} (h : ChgP p p') : cntT p'.toks ≤ cntT p.toks := by
  cases h with
  | sg c hc => exact Nat.zero_le _
  | nd e t e' t' h _ =>
    have : cntT (Pc.nd e' t').toks = 0 := by simp [Pc.toks, cntT, Tk.cost, h.kind]
    rw [this]; exact Nat.zero_le _
  | bd => exact Nat.zero_le _
theorem ChL.cost {P P' : List Pc} (h : ChL P P') : cntT (toksP P') ≤ cntT (toksP P) := by
  induction h with
  | nil => exact Nat.le_refl _
  | same p h ih => rw [toksP, toksP, cntT_app, cntT_app]; omega
  | chg hc h ih => have := hc.cost; rw [toksP, toksP, cntT_app, cntT_app]; omega
theorem two_ways {P : List Pc} (hw : ∀ p ∈ P, p.was) {i k : Nat} (hik : i < k) (h : (flatP P)[i]? = some 40) (hk : (flatP P)[k]? = some 41) :
    ∃ (A : List Pc) (p p' : Pc) (C C' : List Pc) (i' : Nat), P = A ++ p :: C ∧ p.text[i']? = some 40 ∧ ChgP p p' ∧ ChL C C' ∧ ((flatP P).set i 32).set k 32 = flatP (A ++ p' :: C') := by
  obtain ⟨A, p, C, i', rfl, rfl, hp⟩ := locate P i h
  have hwp := hw p (by simp)
  have hi := lt_of_some hp
  obtain ⟨k', rfl⟩ : ∃ k', k = (flatP A).length + k' := ⟨k - (flatP A).length, by omega⟩
  rw [flatP_app, List.getElem?_append_right (by omega), show (flatP A).length + k' - (flatP A).length = k' from by omega, flatP] at hk
  rcases Nat.lt_or_ge k' p.text.length with hk' | hk'
  · rw [List.getElem?_append_left hk'] at hk
    obtain ⟨p', e1, e2⟩ := chg2 hwp (by omega) hp hk
    refine ⟨A, p, p', C, C, i', rfl, hp, e2, ChL.refl C, ?_⟩
    have s1 := set_at (A := A) (C := C) (p := p) (p' := .bd (p.text.set i' 32)) hi rfl
    rw [s1]
    exact set_at (p := .bd (p.text.set i' 32)) (by show k' < (p.text.set i' 32).length; rw [List.length_set]; exact hk') e1
  · rw [List.getElem?_append_right hk'] at hk
    obtain ⟨B, q, D, j, rfl, hj, hq⟩ := locate C _ hk
    obtain ⟨p', e1, e2⟩ := chg1 hwp (.inl rfl) hp
    obtain ⟨q', f1, f2⟩ := chg1 (hw q (by simp)) (.inr rfl) hq
    refine ⟨A, p, p', B ++ q :: D, B ++ q' :: D, i', rfl, hp, e2, ChL.app B (.chg f2 (ChL.refl D)), ?_⟩
    rw [set_at hi e1]
    have hl : p'.text.length = p.text.length := by rw [e1, List.length_set]
    have e : A ++ p' :: (B ++ q :: D) = (A ++ p' :: B) ++ q :: D := by simp
    have e' : A ++ p' :: (B ++ q' :: D) = (A ++ p' :: B) ++ q' :: D := by simp
    rw [e, e', ← set_at (A := A ++ p' :: B) (lt_of_some hq) f1]
    congr 1
    rw [flatP_app, flatP, List.length_append, List.length_append, hl]
    omega
/-- THE LAW: what is left says something else, or nothing -/
theorem least_no {e : Ex} (he : Rtx e) {i k : Nat} (hik : i < k) (h : (txE e)[i]? = some 40) (hk : (txE e)[k]? = some 41) : ¬ Whole (((txE e).set i 32).set k 32) (.ok e []) := by
  intro hwh
  have H := pc_ok e he
  have hg : goodP (pcE e) := by have := H.good [] trivial rfl; rwa [List.append_nil] at this
  have hcnt := H.cnt
  have hlvs := H.lvs
  have hbd := H.bd
  have hfl := flat_pcE e
  rw [← hfl] at h hk hwh
  obtain ⟨A, p, p', C, C', i', hP, hp, hch, hC, hset⟩ := two_ways hbd hik h hk
  rw [hset] at hwh
  have hg' : goodP (A ++ p' :: C') := ChL.good (ChL.app A (.chg hch hC)) (by rw [← hP]; exact hg)
  obtain ⟨ts, t1, t2, t3⟩ := whole_took hwh
  by_cases hb : ∃ q ∈ A ++ p' :: C', q.isBd = true
  · exact str_bad _ hg' hb ts t1
  · have hnb : ∀ q ∈ A ++ p' :: C', q.isBd = false := fun q hq => by
      cases hqb : q.isBd with
      | false => rfl
      | true => exact absurd ⟨q, hq, hqb⟩ hb
    have := (str_good _ hg' hnb).end_uniq rfl t1
    subst this
    rw [hP] at hcnt hlvs
    rw [toksP_app, toksP, cntT_app, cntT_app] at hcnt t2
    rw [toksP_app, toksP, lvsT_app, lvsT_app] at hlvs t3
    have hcC := hC.cost
    cases hch with
    | sg c hc =>
      have hc40 : c = 40 := by
        have := List.mem_of_getElem? hp
        rw [show (Pc.sg c).text = [c] from rfl, List.mem_singleton] at this
        exact this.symm
      subst hc40
      have e1 : cntT (Pc.sg 40).toks = 1 := rfl
      have e2 : cntT Pc.bl.toks = 0 := rfl
      omega
    | nd e0 t0 e1 x1 hl hne =>
      have hold : LeafO e0 t0 := hbd (.nd e0 t0) (by rw [hP]; simp)
      have f0 : lvsT (Pc.nd e0 t0).toks = [e0] := by simp [Pc.toks, lvsT, Tk.leaf, (LeafP.old hold).kind]
      have f1 : lvsT (Pc.nd e1 x1).toks = [e1] := by simp [Pc.toks, lvsT, Tk.leaf, hl.kind]
      rw [f0] at hlvs
      rw [f1, ← hlvs] at t3
      have := List.append_cancel_left t3
      injection this with this _
      exact hne this.symm
    | bd e0 t0 x1 _ => exact hb ⟨.bd x1, by simp, rfl⟩
end Go.Proofs.YtndhbdbfjkmloaaDoor
namespace Go.Proofs.YtndhbdbfjkmloaaDoor
open Go.RowKit

set_option maxRecDepth 100000 in
theorem hasPrefix0X_any (s p : ByteArray) (w : World) : Calls Tryd.prog 120 #[.string s, .string p] w fun e w' => e = .returned (.bool (p.data.toList.isPrefixOf s.data.toList)) ∧ Below w.heap.size w w' := by
  have HX : Hid ((decide (p.data.toList.length ≤ s.data.toList.length) && (s.data.toList.take p.data.toList.length == p.data.toList)) = p.data.toList.isPrefixOf s.data.toList) := Lib.hasPrefix_of_take _ _
  generalize p.data.toList.isPrefixOf s.data.toList = r at HX
  have HL := Lib.hid (size_list s)
  have HP := Lib.hid (size_list p)
  by_cases h : p.size ≤ s.size
  · have HY : Hid (((s.extract 0 p.size).toList == p.toList) = r) := by
      show _ = _
      rw [← HX.out, Lib.extract_toList, ByteArray.toList_eq, List.drop_zero, HL.out, HP.out, decide_eq_true h, Bool.true_and, Nat.sub_zero]
    clear HX
    go_enter Tryd.func120, Tryd.ntmps120
    go_wp2
    go_ret
    exact ⟨ret_bool HY.out, (by repeat (first | exact Below.refl _ _ | assumption | refine Below.drew ?_ | refine below_drewN ?_ _ | refine Below.alloc ?_ (by first | omega | (simp; omega) | simp) _ | refine Below.setCell ?_ (by first | omega | (simp; omega) | simp) _))⟩
  · have HY : Hid (r = false) := by
      show _ = _
      rw [← HX.out, HL.out, HP.out, decide_eq_false h, Bool.false_and]
    clear HX
    go_enter Tryd.func120, Tryd.ntmps120
    go_wp2
    go_ret
    exact ⟨ret_bool HY.out.symm, (by repeat (first | exact Below.refl _ _ | assumption | refine Below.drew ?_ | refine below_drewN ?_ _ | refine Below.alloc ?_ (by first | omega | (simp; omega) | simp) _ | refine Below.setCell ?_ (by first | omega | (simp; omega) | simp) _))⟩
set_option maxRecDepth 100000 in
theorem hasPrefixX_any (s p : ByteArray) (w : World) : Calls Tryd.prog 93 #[.string s, .string p] w fun e w' => e = .returned (.bool (p.data.toList.isPrefixOf s.data.toList)) ∧ Below w.heap.size w w' := by
  have hc := hasPrefix0X_any s p
  generalize p.data.toList.isPrefixOf s.data.toList = r at hc ⊢
  have HC := Lib.hid hc
  clear hc
  go_enter Tryd.func93, Tryd.ntmps93
  go_wp2_with fail
  refine (HC.out _).mono ?_
  rintro e w1 ⟨rfl, hb⟩
  go_wp2
  go_ret
  exact ⟨rfl, hb⟩

end Go.Proofs.YtndhbdbfjkmloaaDoor
