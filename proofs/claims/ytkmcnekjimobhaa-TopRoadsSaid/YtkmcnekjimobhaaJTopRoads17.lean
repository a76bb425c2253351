/- Rules that are made anew: a grammar that rests on some blocks alone; rules in a row while they are appended. kernel.Kernel. How long what code.Make writes is, and how calls are put right: plain. -/
import Derived.Test.YtkmcnekjimobhaaJTopRoads14
import Derived.Test.YtkmcnekjimobhaaJTopRoads16
import Derived.Test.YtkmcnekjimobhaaJTopRoads7
import Derived.Test.YtkmcnekjimobhaaJTopRoads4
import Derived.Test.YtkmcnekjimobhaaJTopRoads12
namespace Go.Proofs.Ytkmcnekjimobhaa
set_option maxHeartbeats 8000000
set_option maxRecDepth 100000
open Go.RowKit Go.Maps
def GrF (S : Nat -> Prop) (hi : Nat) (W : World) (g : List Rl) (V : Option Addr) (c : Nat) (rows : Nat -> List Value) : Prop := ∀ X : World, (∀ p : Addr, S p.block -> X.cell? p = W.cell? p) -> GrIs X hi g V c rows
section
variable {S S' : Nat -> Prop} {hi hi' : Nat} {W W' : World} {g : List Rl} {V : Option Addr} {c : Nat} {rows : Nat -> List Value}
theorem GrF.is (h : GrF S hi W g V c rows) : GrIs W hi g V c rows := h W fun _ _ => rfl
theorem GrF.keep (h : GrF S hi W g V c rows) (hk : ∀ p : Addr, S p.block -> W'.cell? p = W.cell? p) : GrF S hi W' g V c rows := fun X hX => h X fun p hp => (hX p hp).trans (hk p hp)
theorem GrF.mono (h : GrF S hi W g V c rows) (hs : ∀ b, S b -> S' b) (hh : hi <= hi') : GrF S' hi' W g V c rows := fun X hX => (h X fun p hp => hX p (hs _ hp)).more hh
theorem GrF.nil (S : Nat -> Prop) (hi : Nat) (W : World) : GrF S hi W [] none 0 (fun _ => []) := fun _ _ => ⟨by simp, by unfold maxLen; omega, fun _ => rfl, fun h => by simp at h, fun i r h => by simp at h, fun i r h => by simp at h, fun i r ad h => by simp at h, fun i r ad h => by simp at h⟩
end
structure Rus (base : Nat) (W : World) (g : List Rl) (V : Option Addr) (c : Nat) (rows : Nat -> List Value) : Prop where
  own : W.ownsRow base 96 8 (.slice V g.length c) g.length (ruF g rows 0)
  small : ∀ r ∈ g, r.1.size <= maxLen
  body : ∀ i r, g[i]? = some r -> ExF (fun b => base <= b /\ b < W.heap.size /\ some b ≠ (Value.slice V g.length c).ownBlock) W.heap.size W r.2 (rows i)
section
variable {base : Nat} {W W' : World} {g : List Rl} {V : Option Addr} {c : Nat} {rows : Nat -> List Value}
theorem Rus.nil (base : Nat) (W : World) : Rus base W [] none 0 (fun _ => []) := ⟨World.ownsRow_nil _ _ _ _, fun _ h => (by cases h), fun i e h => by simp at h⟩
theorem Rus.below (h : Rus base W g V c rows) (hb : Below W.heap.size W W') : Rus base W' g V c rows :=
  ⟨own_below h.own hb, h.small, fun i e he => ((h.body i e he).keep (W' := W') fun _ hp => hb.cell hp.2.1).mono (fun _ hb' => ⟨hb'.1, Nat.lt_of_lt_of_le hb'.2.1 hb.size, hb'.2.2⟩) hb.size⟩
theorem Rus.far (h : Rus base W g V c rows) {k : Nat} (hk : k < base) (i : Nat) (u : Value) : Rus base (W.setCell ⟨k, i, none⟩ u) g V c rows :=
  have hs : (W.setCell ⟨k, i, none⟩ u).heap.size = W.heap.size := by simp [World.setCell]
  ⟨own_far h.own ⟨rfl, rfl, rfl, by simp [World.setCell], fun q hq hne => Below.heap_setCell W ⟨k, i, none⟩ u q (by rintro rfl; exact hne rfl)⟩ hk, h.small, fun j e he => by
    rw [hs]
    exact (h.body j e he).keep fun p hp => World.cell?_setCell_other W _ p u (by rintro rfl; have := hp.1; simp at this; omega)⟩
theorem Rus.old (h : Rus base W g V c rows) : ∀ q, (Value.slice V g.length c).ownBlock = some q -> q < W.heap.size := fun q hq => (h.own.lt q hq).2
theorem Rus.push {V' : Option Addr} {c' lo : Nat} {r : Rl} {rc : List Value} (h : Rus base W g V c rows) (hlo : base <= lo) (hold : ∀ q, (Value.slice V g.length c).ownBlock = some q -> q < lo) (hn : r.1.size <= maxLen) (hE : ExF (fun b => lo <= b /\ b < W.heap.size) W.heap.size W r.2 rc)
    (hown : W'.ownsRow base 96 8 (.slice V' (g.length + 1) c') (g.length + 1) (ruF g rows 0 ++ (.string r.1 :: rc))) (hg : W.grownBy W' (Value.slice V g.length c).ownBlock)
    (hat : (Value.slice V' (g.length + 1) c').ownBlock = (Value.slice V g.length c).ownBlock \/ (Value.slice V' (g.length + 1) c').ownBlock = some W.heap.size) :
    Rus base W' (g ++ [r]) V' c' (fun i => if i = g.length then rc else rows i) := by
  have hl : (g ++ [r]).length = g.length + 1 := by simp
  have hne : ∀ b, b < W.heap.size -> some b ≠ (Value.slice V g.length c).ownBlock -> some b ≠ (Value.slice V' (g.length + 1) c').ownBlock := fun b hb hne => by
    rcases hat with h1 | h1
    · rw [h1]; exact hne
    · rw [h1]; intro e; injection e with e; omega
  have hkeep : ∀ p : Addr, p.block < W.heap.size -> some p.block ≠ (Value.slice V g.length c).ownBlock -> W'.cell? p = W.cell? p := fun p h1 h2 => World.cell?_of_block (hg.block p.block h1 h2)
  refine ⟨?_, fun x hx => ?_, fun i x hx => ?_⟩
  · rw [hl, ruF_app, ruF_same g (fun i => if i = g.length then rc else rows i) rows 0 (fun i hi => if_neg (by omega)), ruF, ruF, List.append_nil, Nat.zero_add, if_pos rfl]
    exact hown
  · rcases List.mem_append.1 hx with hx | hx
    · exact h.small x hx
    · rw [List.mem_singleton.1 hx]; exact hn
  · rw [hl]
    by_cases hi : i < g.length
    · rw [List.getElem?_append_left hi] at hx
      rw [if_neg (by omega)]
      exact ((h.body i x hx).keep (W' := W') fun p hp => hkeep p hp.2.1 hp.2.2).mono (fun b hb => ⟨hb.1, Nat.lt_of_lt_of_le hb.2.1 hg.size, hne b hb.2.1 hb.2.2⟩) hg.size
    · have hi' : i = g.length := by have := getElem?_lt hx; simp at this; omega
      subst hi'
      simp at hx
      subst hx
      rw [if_pos rfl]
      have hx : ∀ b, lo <= b -> some b ≠ (Value.slice V g.length c).ownBlock := fun b hb e => by have := hold b e.symm; omega
      exact (hE.keep (W' := W') fun p hp => hkeep p hp.2 (hx _ hp.1)).mono (fun b hb => ⟨Nat.le_trans hlo hb.1, Nat.lt_of_lt_of_le hb.2 hg.size, hne b hb.2 (hx b hb.1)⟩) hg.size
theorem Rus.gr (h : Rus base W g V c rows) : GrF (fun b => base <= b /\ b < W.heap.size) W.heap.size W g V c rows := by
  intro X hX
  have h7 : ∀ j, j < g.length -> (rows (0 + j)).length = 7 := fun j hj => by rw [Nat.zero_add]; exact (h.body j _ (List.getElem?_eq_getElem hj)).len7
  have ho := h.own
  have hlt := ho.lt
  have hc : g.length <= c /\ c <= maxLen /\ (V = none -> c = 0) /\ (0 < g.length -> ∃ ad : Addr, V = some ad /\ ad.block < W.heap.size /\ base <= ad.block) /\ ∀ (ad : Addr), V = some ad -> ∀ j u, (ruF g rows 0)[j]? = some u -> W.cell? (ad.add j) = some u := by
    rcases ho.2 with ⟨h1, h2⟩ | ⟨g1, cap, cur, hv, h3, h4, h5, h6, _⟩
    · injection h1 with e1 e2 e3
      subst e1 e3
      exact ⟨by omega, by unfold maxLen; omega, fun _ => rfl, fun h => by omega, fun _ h => by cases h⟩
    · injection hv with e1 e2 e3
      subst e1 e3
      refine ⟨h5, h6, fun h => (by cases h), fun _ => ⟨_, rfl, (hlt g1 rfl).2, (hlt g1 rfl).1⟩, fun ad hA j u hu => ?_⟩
      injection hA with hA
      subst hA
      exact ho.cells rfl j u hu
  obtain ⟨c1, c2, c3, c4, c5⟩ := hc
  have hcell : ∀ (i : Nat) (r : Rl) (ad : Addr), g[i]? = some r -> V = some ad -> ∀ j u, (ruF g rows 0)[j]? = some u -> X.cell? (ad.add j) = some u := fun i r ad hr hA j u hu => by
    obtain ⟨ad', e1, e2, e3⟩ := c4 (by have := getElem?_lt hr; omega)
    rw [hA] at e1
    injection e1 with e1
    subst e1
    rw [hX _ (by rw [add_block]; exact ⟨e3, e2⟩)]
    exact c5 ad hA j u hu
  refine ⟨c1, c2, c3, fun h0 => by obtain ⟨ad, e1, e2, _⟩ := c4 h0; exact ⟨ad, e1, e2⟩, fun i r hr => h.small r (List.mem_of_getElem? hr), fun i r hr => h.body i r hr X fun p hp => hX p ⟨hp.1, hp.2.1⟩, fun i r ad hr hA => ?_, fun i r ad hr hA j u hu => ?_⟩
  · exact hcell i r ad hr hA _ _ (ruF_get g rows 0 i r h7 hr).1
  · rw [add_add']
    exact hcell i r ad hr hA _ _ ((ruF_get g rows 0 i r h7 hr).2 j u (by rw [Nat.zero_add]; exact hu))
end
structure RuC (ob kb : Nat) (o k : Array Value) (W : World) : Prop where
  out : Blk W ob 24 o
  rule : Blk W kb 96 k
theorem RuC.below {ob kb : Nat} {o k : Array Value} {W W' : World} (h : RuC ob kb o k W) (hb : Below W.heap.size W W') : RuC ob kb o k W' := ⟨h.out.below hb h.out.lt, h.rule.below hb h.rule.lt⟩
theorem RuC.grown {ob kb : Nat} {o k : Array Value} {W W' : World} {r : Option Nat} (h : RuC ob kb o k W) (hg : W.grownBy W' r) (h1 : some ob ≠ r) (h2 : some kb ≠ r) : RuC ob kb o k W' := ⟨h.out.grown hg h1, h.rule.grown hg h2⟩
def cntG (g : List Rl) : Nat := (g.map fun r => cntE r.2).sum
def kerG (g : List Rl) : List Rl := g.map fun r => (r.1, kerE r.2)
def kerR (g : List Rl) : Int := if checkG g ≠ 0 then checkG g else if 400 < cntG g then 2 else 0
theorem kerG_len (g : List Rl) : (kerG g).length = g.length := by simp [kerG]
theorem Fit1.of_rt {g : List Rl} {e : Ex} (h : Rt g e) : Fit1 e := by
  induction h with
  | mk k a b c d t ks hf _ _ ih =>
    refine .mk k a b c d t ks (fit_len hf) (fun hk => ?_) ih
    unfold fitB lims at hf
    rcases hk with rfl | rfl <;> simp at hf <;> omega
def KernelQ (g : List Rl) (w : World) (e : Ending) (w' : World) : Prop := Below w.heap.size w w' /\
  ((kerR g ≠ 0 /\ e = .returned (.tuple #[.agg #[.slice none 0 0], .int .i64 (kerR g)])) \/
   (kerR g = 0 /\ ∃ V c rows, e = .returned (.tuple #[.agg #[.slice V g.length c], .int .i64 0]) /\ GrF (fun b => w.heap.size <= b /\ b < w'.heap.size) w'.heap.size w' (kerG g) V c rows))
structure KnI (f : Ex -> Ex) (g : List Rl) (w : World) (nb : Nat) (V : Option Addr) (c : Nat) (rows : Nat -> List Value) (j : Nat) (W : World) : Prop where
  bel : Below w.heap.size w W
  res : Blk W (w.heap.size + 1) 24 #[.slice none 0 0]
  nlo : w.heap.size + 1 < nb
  out : Blk W nb 24 #[.slice V j c]
  rus : Rus (nb + 1) W ((g.take j).map fun r => (r.1, f r.2)) V c rows
section
variable {f : Ex -> Ex} {g : List Rl} {w : World} {nb : Nat} {V : Option Addr} {c : Nat} {rows : Nat -> List Value} {j : Nat} {W W' : World}
theorem KnI.below (h : KnI f g w nb V c rows j W) (hb : Below W.heap.size W W') : KnI f g w nb V c rows j W' :=
  ⟨h.bel.trans (hb.mono h.bel.size), h.res.below hb h.res.lt, h.nlo, h.out.below hb h.out.lt, h.rus.below hb⟩
theorem KnI.push {V' : Option Addr} {c' lo : Nat} {r : Rl} {rc : List Value} (h : KnI f g w nb V c rows j W) (he : g[j]? = some r) (hlo : nb + 1 <= lo) (hold : ∀ q, (Value.slice V j c).ownBlock = some q -> q < lo) (hn : r.1.size <= maxLen) (hE : ExF (fun b => lo <= b /\ b < W.heap.size) W.heap.size W (f r.2) rc)
    (hown : W'.ownsRow (nb + 1) 96 8 (.slice V' (j + 1) c') (j + 1) (ruF ((g.take j).map fun r => (r.1, f r.2)) rows 0 ++ (.string r.1 :: rc))) (hg : W.grownBy W' (Value.slice V j c).ownBlock)
    (hat : (Value.slice V' (j + 1) c').ownBlock = (Value.slice V j c).ownBlock \/ (Value.slice V' (j + 1) c').ownBlock = some W.heap.size) :
    KnI f g w nb V' c' (fun i => if i = j then rc else rows i) (j + 1) (W'.setCell ⟨nb, 0, none⟩ (.slice V' (j + 1) c')) := by
  have hjl := getElem?_lt he
  have hnl := h.nlo
  have hl : ((g.take j).map fun r => (r.1, f r.2)).length = j := by simp; omega
  have hne : ∀ b, b < nb + 1 -> some b ≠ (Value.slice V j c).ownBlock := fun b hb e => by
    have := h.rus.own.lt b (by rw [hl]; exact e.symm)
    omega
  have hlow : Below w.heap.size W W' := ⟨hg.os, hg.tape, hg.output, hg.size, fun q hq => hg.block q (by have := h.bel.size; omega) (hne q (by omega))⟩
  have hk := h.rus.push (V' := V') (c' := c') (lo := lo) (r := (r.1, f r.2)) hlo (by rw [hl]; exact hold) hn hE (by rw [hl]; exact hown) (by rw [hl]; exact hg) (by rw [hl]; exact hat)
  rw [hl] at hk
  refine ⟨(h.bel.trans hlow).setCell (by simp; omega) _, ((h.res.grown hg (hne _ (by omega))).far (by simp; omega) _), hnl, ((h.out.grown hg (hne _ (by omega))).set_ 0 _), ?_⟩
  rw [take_succ_of he, List.map_append, List.map_cons, List.map_nil]
  exact hk.far (by omega) _ _
end
theorem kernel_any {g : List Rl} {A : Option Addr} {cp : Nat} {row : Nat -> List Value} {w : World} (h : GrIs w w.heap.size g A cp row) : Calls Try.prog 30 #[.agg #[.slice A g.length cp]] w (KernelQ g w) := by
  have hck := fun W (hW : Below w.heap.size w W) => gcheck_any (h.grow hW)
  have HCK := Lib.hid hck
  have hQ1 : kerR g ≠ 0 -> ∀ w', Below w.heap.size w w' -> KernelQ g w (.returned (.tuple #[.agg #[.slice none 0 0], .int .i64 (kerR g)])) w' := fun h0 w' hb => ⟨hb, .inl ⟨h0, rfl⟩⟩
  have hQ2 : kerR g = 0 -> ∀ V c rows w', Below w.heap.size w w' -> GrF (fun b => w.heap.size <= b /\ b < w'.heap.size) w'.heap.size w' (kerG g) V c rows -> KernelQ g w (.returned (.tuple #[.agg #[.slice V g.length c], .int .i64 0])) w' := fun h0 V c rows w' hb hG => ⟨hb, .inr ⟨h0, V, c, rows, rfl, hG⟩⟩
  have hdef : kerR g = if checkG g ≠ 0 then checkG g else if 400 < cntG g then 2 else 0 := rfl
  generalize KernelQ g w = Q at hQ1 hQ2 ⊢
  have hR := fun h0 : checkG g = 0 => right_of h0
  have HG := Lib.hid h
  by_cases hc0 : checkG g = 0
  rotate_left
  · have hr : kerR g = checkG g := by rw [hdef, if_pos hc0]
    rw [hr] at hQ1
    have HQ := Lib.hid (hQ1 hc0)
    have hxb : (checkG g != 0) = true := by rw [bne_iff_ne]; exact hc0
    generalize checkG g = x at HCK HQ hxb
    clear hc0 hQ1 hQ2 hdef hr hR h
    go_enter Try.func30, Try.ntmps30
    go_wp2_with fail
    refine (HCK.out _ bl).mono ?_
    rintro e w1 ⟨rfl, hb1⟩
    have hrs1 : Blk w1 (w.heap.size + 1) 24 #[.slice none 0 0] := (blk_at (by simp)).below hb1 (by simp)
    have hw1 : Below w.heap.size w w1 := Below.trans bl (hb1.mono (by first | omega | (simp; omega) | simp))
    have z0 := hrs1.cell 0
    have f0 := hrs1.frozen 0
    simp at z0
    clear hb1 hck
    have q0 : (w1.setCell ⟨w.heap.size + 1, 0, none⟩ (.slice none 0 0)).cell? ⟨w.heap.size + 1, 0, none⟩ = some (.slice none 0 0) := (hrs1.set_ 0 _).cell 0
    go_wp2
    exact bodyPost_ret (v := .tuple #[.agg #[.slice none 0 0], .int .i64 x]) (by simp [results, Try.results30, go_sem, q0]) rfl (HQ.out _ bl)
  · have R := hR hc0
    have hten := R.ten
    have hkof : ∀ (j : Nat) (nm : ByteArray) (k' a' b' c' d' : Int) (t' : ByteArray) (ks' : List Ex) (A' : Option Addr) (cp' : Nat) (W : World), Below w.heap.size w W -> g[j]? = some (nm, .mk k' a' b' c' d' t' ks') -> ExIs w w.heap.size (.mk k' a' b' c' d' t' ks') (exCells k' a' b' c' d' t' A' ks'.length cp') ->
        Calls Try.prog 62 #[.agg #[.int .i64 k', .int .u64 a', .int .u64 b', .int .u64 c', .int .u64 d', .string t', .slice A' ks'.length cp']] W (MadeQ (kerE (.mk k' a' b' c' d' t' ks')) W) := fun j nm k' a' b' c' d' t' ks' A' cp' W hW hej hx =>
      kof_any _ (Fit1.of_rt (R.rt _ (List.mem_of_getElem? hej))) _ W (hx.grow hW)
    have hcnt : ∀ (j : Nat) (nm : ByteArray) (k' a' b' c' d' : Int) (t' : ByteArray) (ks' : List Ex) (A' : Option Addr) (cp' : Nat) (W : World), Below w.heap.size w W -> g[j]? = some (nm, .mk k' a' b' c' d' t' ks') -> ExIs w w.heap.size (.mk k' a' b' c' d' t' ks') (exCells k' a' b' c' d' t' A' ks'.length cp') ->
        Calls Try.prog 61 #[.agg #[.int .i64 k', .int .u64 a', .int .u64 b', .int .u64 c', .int .u64 d', .string t', .slice A' ks'.length cp']] W (fun r w' => r = .returned (.int .i64 (cntE (.mk k' a' b' c' d' t' ks'))) /\ Below W.heap.size W w') := fun j nm k' a' b' c' d' t' ks' A' cp' W hW hej hx =>
      kcount_any _ _ W (hx.grow hW)
    have HKO := Lib.hid hkof
    have HCN := Lib.hid hcnt
    rw [hc0] at HCK
    rw [if_neg (by rw [hc0]; decide)] at hdef
    have HTOT : Hid (((g.drop 0).map fun r => cntE r.2).sum = cntG g) := by exact rfl
    obtain ⟨i0, hi0, hz0, hz1, hz2⟩ := info_parts rule_info
    have HD := Lib.hid hdef
    have HQ1 := Lib.hid hQ1
    have HQ2 := Lib.hid hQ2
    have hgcap := h.cap
    unfold maxLen at hgcap
    clear hkof hcnt hR hc0 R h hdef hQ1 hQ2 hck
    generalize cntG g = tot at HTOT HD
    go_enter Try.func30, Try.ntmps30
    go_wp2_with fail
    refine (HCK.out _ bl).mono ?_
    rintro e w1 ⟨rfl, hb1⟩
    have hgx1 : Blk w1 w.heap.size 24 #[.slice A g.length cp] := ((blk_at rfl).alloc _).below hb1 (by first | omega | (simp; omega) | simp)
    have hrs1 : Blk w1 (w.heap.size + 1) 24 #[.slice none 0 0] := (blk_at (by simp)).below hb1 (by simp)
    have hw1 : Below w.heap.size w w1 := Below.trans bl (hb1.mono (by first | omega | (simp; omega) | simp))
    have g0 := hgx1.cell 0
    simp at g0
    have hs1 : w.heap.size + 1 < w1.heap.size := hrs1.lt
    clear hb1
    go_wp2
    go_loopw [5, 7, 20] (fun v _ i wr => ∃ j n : Nat, j <= g.length /\ n <= 401 * j /\ v = .int .i64 n /\ i = .int .i64 j /\ Hid (n + ((g.drop j).map fun r => cntE r.2).sum = tot) /\ Below w1.heap.size w1 wr) (fun _ _ i _ => g.length - (intOf i).toNat)
    case atStart => exact ⟨0, 0, by omega, by omega, rfl, rfl, (by show _ = _; rw [Nat.zero_add]; exact HTOT.out), Below.refl _ _⟩
    case round =>
      obtain ⟨j, n, hj, hn, rfl, rfl, HN, h1r⟩ := hrel
      have hbw : Below w.heap.size w wr := hw1.trans (h1r.mono (by omega))
      have hzw := h1r.size
      by_cases hjn : j < g.length
      · obtain ⟨ad, nm, k', a', b', c', d', t', ks', A', cp', rfl, hab, hej, hnm, hE, hS⟩ := HG.out.rule hjn
        have hcc : Eight wr (ad.add (j * 8)) nm k' a' b' c' d' t' A' ks'.length cp' :=
          have hk := fun (q : Addr) (hq : q.block = (ad.add (j * 8)).block) => hbw.cell (p := q) (by rw [hq, add_block]; omega)
          ⟨(hk _ rfl).trans hS.c0, (hk ⟨_, _, none⟩ rfl).trans hS.c1, (hk ⟨_, _, none⟩ rfl).trans hS.c2, (hk ⟨_, _, none⟩ rfl).trans hS.c3, (hk ⟨_, _, none⟩ rfl).trans hS.c4, (hk ⟨_, _, none⟩ rfl).trans hS.c5, (hk ⟨_, _, none⟩ rfl).trans hS.c6, (hk ⟨_, _, none⟩ rfl).trans hS.c7⟩
        obtain ⟨y0, y1, y2, y3, y4, y5, y6, y7⟩ := hcc
        have had1 : ad.block < wr.heap.size := by omega
        have hjl : (j : Int) < (g.length : Int) := by omega
        have hle := cntE_le (.mk k' a' b' c' d' t' ks')
        have hc1 := fun W hW => HCN.out j nm k' a' b' c' d' t' ks' A' cp' W hW hej hE
        have HN2 : Hid (n + cntE (.mk k' a' b' c' d' t' ks') + ((g.drop (j + 1)).map fun r => cntE r.2).sum = tot) := by
          have h1 := HN.out
          rw [drop_of hej, List.map_cons, List.sum_cons] at h1
          simp only at h1
          show _ = _
          omega
        generalize cntE (.mk k' a' b' c' d' t' ks') = y at HN2 hle hc1
        have HC1 := Lib.hid hc1
        clear hc1 hS hE hej hnm
        go_wp2_with fail
        refine (HC1.out _ bl).mono ?_
        rintro e w2 ⟨rfl, hb2⟩
        have h12 : Below w1.heap.size w1 w2 := (h1r.alloc hzw _).trans (hb2.mono (by simp; omega))
        clear hb2
        go_wp2
        go_roundw
        case rel => exact ⟨j + 1, n + y, by omega, by omega, by go_num, by go_num, HN2.out, h12⟩
        case measure => simp [intOf]; omega
      · obtain rfl : j = g.length := by omega
        have hnt : n = tot := by have := HN.out; rw [List.drop_length] at this; simpa using this
        subst hnt
        have hgx2 := hgx1.below h1r hgx1.lt
        have hrs2 := hrs1.below h1r hrs1.lt
        have g1 := hgx2.cell 0
        simp at g1
        clear g0 hgx1 hrs1
        by_cases h400 : 400 < n
        · have hr : kerR g = 2 := by rw [HD.out, if_pos h400]
          have hq := HQ1.out
          rw [hr] at hq
          have HQ := Lib.hid (hq (by decide))
          have z0 := hrs2.cell 0
          have f0 := hrs2.frozen 0
          simp at z0
          have q0 : (wr.setCell ⟨w.heap.size + 1, 0, none⟩ (.slice none 0 0)).cell? ⟨w.heap.size + 1, 0, none⟩ = some (.slice none 0 0) := (hrs2.set_ 0 _).cell 0
          have h4i : (400 : Int) < (n : Int) := by omega
          clear hq hr h400
          go_wp2
          exact bodyPost_ret (v := .tuple #[.agg #[.slice none 0 0], .int .i64 2]) (by simp [results, Try.results30, go_sem, q0]) rfl (HQ.out _ bl)
        · have hr : kerR g = 0 := by rw [HD.out, if_neg h400]
          have HQ := Lib.hid (HQ2.out hr)
          have h4i : ((400 : Int) < (n : Int)) = False := by simp; omega
          clear hr h400 HQ1 HQ2 HD
          have hstart : KnI kerE g w wr.heap.size none 0 (fun _ => []) 0 (wr.alloc (.cells #[.slice none 0 0] 24)) :=
            ⟨bl, hrs2.alloc _, by omega, blk_at rfl, Rus.nil _ _⟩
          have HST := Lib.hid hstart
          have h1r2 : w1.heap.size <= wr.heap.size := hzw
          clear hstart hrs2
          rename World => ws
          have hlt0 : w.heap.size < ws.heap.size := by omega
          go_wp2
          go_loopw [10, 36] (fun _ i wr => ∃ j : Nat, j <= g.length /\ i = .int .i64 j /\ ∃ V c rows, KnI kerE g w ws.heap.size V c rows j wr) (fun _ i _ => g.length - (intOf i).toNat)
          case atStart => exact ⟨0, by omega, rfl, _, _, _, HST.out⟩
          case round =>
            obtain ⟨j, hj, rfl, V, c, rows, hI⟩ := hrel
            have hbw := hI.bel
            have hnl := hI.out.lt
            by_cases hjn : j < g.length
            · obtain ⟨ad, nm, k', a', b', c', d', t', ks', A', cp', rfl, hab, hej, hnm, hE, hS⟩ := HG.out.rule hjn
              have hcc : Eight wr (ad.add (j * 8)) nm k' a' b' c' d' t' A' ks'.length cp' :=
                have hk := fun (q : Addr) (hq : q.block = (ad.add (j * 8)).block) => hbw.cell (p := q) (by rw [hq, add_block]; omega)
                ⟨(hk _ rfl).trans hS.c0, (hk ⟨_, _, none⟩ rfl).trans hS.c1, (hk ⟨_, _, none⟩ rfl).trans hS.c2, (hk ⟨_, _, none⟩ rfl).trans hS.c3, (hk ⟨_, _, none⟩ rfl).trans hS.c4, (hk ⟨_, _, none⟩ rfl).trans hS.c5, (hk ⟨_, _, none⟩ rfl).trans hS.c6, (hk ⟨_, _, none⟩ rfl).trans hS.c7⟩
              obtain ⟨y0, y1, y2, y3, y4, y5, y6, y7⟩ := hcc
              have had1 : ad.block < wr.heap.size := by omega
              have hjl : (j : Int) < (g.length : Int) := by omega
              have hc1 := fun W hW => HKO.out j nm k' a' b' c' d' t' ks' A' cp' W hW hej hE
              have HC1 := Lib.hid hc1
              have HEJ := Lib.hid hej
              have HNM := Lib.hid hnm
              clear hc1 hS hE hej hnm
              have hC0 : RuC ws.heap.size wr.heap.size #[.slice V j c] #[.string nm, .int .i64 k', .int .u64 a', .int .u64 b', .int .u64 c', .int .u64 d', .string t', .slice A' ks'.length cp'] (wr.alloc (.cells #[.string nm, .int .i64 k', .int .u64 a', .int .u64 b', .int .u64 c', .int .u64 d', .string t', .slice A' ks'.length cp'] 96)) := ⟨hI.out.alloc _, blk_at rfl⟩
              have hI1 := hI.below ((Below.refl _ wr).alloc (Nat.le_refl _) (.cells #[.string nm, .int .i64 k', .int .u64 a', .int .u64 b', .int .u64 c', .int .u64 d', .string t', .slice A' ks'.length cp'] 96))
              have hll : ((g.take j).map fun r => (r.1, kerE r.2)).length = j := by simp; omega
              have hold : ∀ q, (Value.slice V j c).ownBlock = some q -> q < wr.heap.size := fun q hq => hI.rus.old q (by rw [hll]; exact hq)
              have hkne : some wr.heap.size ≠ (Value.slice V j c).ownBlock := fun e => by have := hold _ e.symm; omega
              have hone : some (ws.heap.size) ≠ (Value.slice V j c).ownBlock := fun e => by have h1 := hI.rus.own.lt (ws.heap.size) (by rw [hll]; exact e.symm); omega
              have hbase1 : ws.heap.size + 1 <= (wr.alloc (.cells #[.string nm, .int .i64 k', .int .u64 a', .int .u64 b', .int .u64 c', .int .u64 d', .string t', .slice A' ks'.length cp'] 96)).heap.size := by simp; omega
              have hold1 : ∀ q, (Value.slice V j c).ownBlock = some q -> q < (wr.alloc (.cells #[.string nm, .int .i64 k', .int .u64 a', .int .u64 b', .int .u64 c', .int .u64 d', .string t', .slice A' ks'.length cp'] 96)).heap.size := fun q hq => by have := hold q hq; simp; omega
              clear hold hI
              go_upto_region 16 with fail
              generalize (wr.alloc (.cells #[.string nm, .int .i64 k', .int .u64 a', .int .u64 b', .int .u64 c', .int .u64 d', .string t', .slice A' ks'.length cp'] 96)) = w11 at hC0 hI1 hbase1 hold1 ⊢
              generalize wr.heap.size = kb at hC0 hkne ⊢
              clear y0 y1 y2 y3 y4 y5 y6 y7 had1 hbw
              refine wp_region_l (RuC ws.heap.size kb #[.slice V j c] #[.string nm, .int .i64 k', .int .u64 a', .int .u64 b', .int .u64 c', .int .u64 d', .string t', .slice A' ks'.length cp']) (· == 11) (by kernel_rfl) ?_
              have hC := hC0.below (Below.refl _ _).drew
              have hI := hI1.below (Below.refl _ _).drew
              have hbd : (w11.drew).heap.size = w11.heap.size := rfl
              rw [<- hbd] at hbase1 hold1
              generalize w11.drew = wd at hC hI hbase1 hold1 ⊢
              clear hC0 hI1 hbd
              apply L.rd (i := 0) rfl (by kernel_rfl) hC rfl
              · intro W hW
                skip
                unfold readW
                go_simp
                first | rfl | exact ⟨rfl, rfl⟩
              first | simp only [Act.put, p1, p2, p3] | skip
              apply L.rd (i := 1) rfl (by kernel_rfl) hC rfl
              · intro W hW
                have n0 := hW.out.cell 0
                unfold readW
                go_simp
                first | rfl | exact ⟨rfl, rfl⟩
              first | simp only [Act.put, p1, p2, p3] | skip
              apply L.rd (i := 2) rfl (by kernel_rfl) hC rfl
              · intro W hW
                skip
                unfold readW
                go_simp
                first | rfl | exact ⟨rfl, rfl⟩
              first | simp only [Act.put, p1, p2, p3] | skip
              apply L.rd (i := 3) rfl (by kernel_rfl) hC rfl
              · intro W hW
                have n0 := hW.rule.cell 0
                unfold readW
                go_simp
                first | rfl | exact ⟨rfl, rfl⟩
              first | simp only [Act.put, p1, p2, p3] | skip
              apply L.rd (i := 4) rfl (by kernel_rfl) hC rfl
              · intro W hW
                skip
                unfold readW
                go_simp
                first | rfl | exact ⟨rfl, rfl⟩
              first | simp only [Act.put, p1, p2, p3] | skip
              apply L.rd (i := 5) rfl (by kernel_rfl) hC rfl
              · intro W hW
                have r1 := hW.rule.cell 1; have r2 := hW.rule.cell 2; have r3 := hW.rule.cell 3; have r4 := hW.rule.cell 4; have r5 := hW.rule.cell 5; have r6 := hW.rule.cell 6; have r7 := hW.rule.cell 7
                unfold readW
                go_simp
                first | rfl | exact ⟨rfl, rfl⟩
              first | simp only [Act.put, p1, p2, p3] | skip
              apply L.one (i := 6) rfl (by kernel_rfl) rfl
              unfold stepT
              go_simp
              go_at_call 62
              refine (HC1.out _ hI.bel).mono ?_
              rintro e wn ⟨⟨rc, rfl, hF⟩, hbn⟩
              have hC := hC.below hbn
              have hI := hI.below hbn
              have hbase2 := Nat.le_trans hbase1 hbn.size
              clear hbn
              have hrc := ex_one' hF.is
              obtain ⟨k1, a1, b1, c1, d1, t1, A1, n1, cp1, rfl⟩ := Ex.parts _ hF.is
              refine ⟨_, rfl, hC, ?_⟩
              first | simp only [Act.put, p1, p2, p3] | skip
              apply L.rd (i := 7) rfl (by kernel_rfl) hC rfl
              · intro W hW
                skip
                unfold readW
                go_simp
                first | rfl | exact ⟨rfl, rfl⟩
              first | simp only [Act.put, p1, p2, p3] | skip
              apply L.one (i := 8) rfl (by kernel_rfl) rfl
              unfold stepT
              go_simp
              have hF1 := (hF.keep (W' := wn.alloc (.cells #[.string nm, .int .i64 k1, .int .u64 a1, .int .u64 b1, .int .u64 c1, .int .u64 d1, .string t1, .slice A1 n1 cp1] 96)) fun p hp => World.cell?_alloc_lt wn _ p hp.2).mono (S' := fun b => wd.heap.size <= b /\ b < (wn.alloc (.cells #[.string nm, .int .i64 k1, .int .u64 a1, .int .u64 b1, .int .u64 c1, .int .u64 d1, .string t1, .slice A1 n1 cp1] 96)).heap.size) (fun b hb => ⟨hb.1, by simp; omega⟩) (hi' := (wn.alloc (.cells #[.string nm, .int .i64 k1, .int .u64 a1, .int .u64 b1, .int .u64 c1, .int .u64 d1, .string t1, .slice A1 n1 cp1] 96)).heap.size) (by simp)
              have hkb : Blk (wn.alloc (.cells #[.string nm, .int .i64 k1, .int .u64 a1, .int .u64 b1, .int .u64 c1, .int .u64 d1, .string t1, .slice A1 n1 cp1] 96)) wn.heap.size 96 #[.string nm, .int .i64 k1, .int .u64 a1, .int .u64 b1, .int .u64 c1, .int .u64 d1, .string t1, .slice A1 n1 cp1] := blk_at rfl
              have hC := hC.below ((Below.refl _ _).alloc (Nat.le_refl _) (.cells #[.string nm, .int .i64 k1, .int .u64 a1, .int .u64 b1, .int .u64 c1, .int .u64 d1, .string t1, .slice A1 n1 cp1] 96))
              have hI := hI.below ((Below.refl _ _).alloc (Nat.le_refl _) (.cells #[.string nm, .int .i64 k1, .int .u64 a1, .int .u64 b1, .int .u64 c1, .int .u64 d1, .string t1, .slice A1 n1 cp1] 96))
              have hbase3 : ws.heap.size + 1 <= (wn.alloc (.cells #[.string nm, .int .i64 k1, .int .u64 a1, .int .u64 b1, .int .u64 c1, .int .u64 d1, .string t1, .slice A1 n1 cp1] 96)).heap.size := by simp; omega
              generalize (wn.alloc (.cells #[.string nm, .int .i64 k1, .int .u64 a1, .int .u64 b1, .int .u64 c1, .int .u64 d1, .string t1, .slice A1 n1 cp1] 96)) = wk at hC hI hkb hF1 hbase3 ⊢
              generalize wn.heap.size = rb at hkb ⊢
              clear hF hbase2
              refine ⟨hC, ?_⟩
              apply L.one (i := 9) rfl (by kernel_rfl) rfl
              refine stepT_append_at (.tmp 41) (.tmp 48) 22 rfl (ws.heap.size + 1) 96 i0 _ 8 96 Try.underlying22 hi0 hz0 hz1 hz2 rfl (by decide) (.slice V j c) j (ruF ((g.take j).map fun r => (r.1, kerE r.2)) rows 0) (by simp [Act.eval]) (by have h1 := hI.rus.own; rw [hll] at h1; exact h1) ⟨rb, 0, none⟩ 1 1 (.string nm :: [.int .i64 k1, .int .u64 a1, .int .u64 b1, .int .u64 c1, .int .u64 d1, .string t1, .slice A1 n1 cp1]) (by simp [Act.eval]) rfl (fun i u hu => by rw [cell_add]; exact (hkb.cell i).trans (by rw [List.getElem?_toArray]; exact hu)) (fun u hu => by rcases List.mem_cons.1 hu with rfl | hu; rfl; exact hrc u hu) (by unfold maxLen; omega) (by omega) hbase3 ?_
              intro v' w3 hown hgr hat
              obtain ⟨V3, c3, rfl⟩ := own_form hown
              have hI3 := hI.push HEJ.out hbase1 hold1 HNM.out hF1 hown hgr hat
              have hC := hC.grown hgr hone hkne
              refine ⟨fun _ => hC, ?_⟩
              first | simp only [Act.put, p1, p2, p3] | skip
              apply L.rd (i := 10) rfl (by kernel_rfl) hC rfl
              · intro W hW
                skip
                unfold readW
                go_simp
                first | rfl | exact ⟨rfl, rfl⟩
              first | simp only [Act.put, p1, p2, p3] | skip
              have n0 := hC.out.cell 0
              have f0 := hC.out.frozen 0
              apply L.one (i := 11) rfl (by kernel_rfl) rfl
              unfold stepT
              go_simp
              refine L.done (by kernel_rfl) ?_
              have HI3 := Lib.hid hI3
              clear hI hI3 hC hown hgr hkb n0 f0 hat hF1 hold1 hbase1 hbase3 hkne hone hll
              go_wp2
              go_roundw
              case rel => exact ⟨j + 1, by omega, by go_num, _, _, _, HI3.out⟩
              case measure => simp [intOf]; omega
            · obtain rfl : j = g.length := by omega
              have hgr := hI.rus.gr
              rw [List.take_length] at hgr
              have hrs3 := hI.res
              have z0 := hrs3.cell 0
              have f0 := hrs3.frozen 0
              simp at z0
              have o0 : wr.cell? ⟨ws.heap.size, 0, none⟩ = some (.slice V g.length c) := hI.out.cell 0
              have q0 : (wr.setCell ⟨w.heap.size + 1, 0, none⟩ (.slice V g.length c)).cell? ⟨w.heap.size + 1, 0, none⟩ = some (.slice V g.length c) := (hrs3.set_ 0 _).cell 0
              have hsz : (wr.setCell ⟨w.heap.size + 1, 0, none⟩ (.slice V g.length c)).heap.size = wr.heap.size := by simp [World.setCell]
              have hG : GrF (fun b => w.heap.size <= b /\ b < (wr.setCell ⟨w.heap.size + 1, 0, none⟩ (.slice V g.length c)).heap.size) (wr.setCell ⟨w.heap.size + 1, 0, none⟩ (.slice V g.length c)).heap.size (wr.setCell ⟨w.heap.size + 1, 0, none⟩ (.slice V g.length c)) (kerG g) V c rows := by
                rw [hsz]
                exact (hgr.keep fun p hp => World.cell?_setCell_other wr _ p _ (by rintro rfl; have := hp.1; simp at this; omega)).mono (fun b hb => ⟨by omega, hb.2⟩) (Nat.le_refl _)
              have HG2 := Lib.hid hG
              clear hI hgr hG
              go_wp2
              exact bodyPost_ret (v := .tuple #[.agg #[.slice V g.length c], .int .i64 0]) (by simp [results, Try.results30, go_sem, q0]) rfl (HQ.out _ _ _ _ bl HG2.out)
end Go.Proofs.Ytkmcnekjimobhaa
namespace Go.Proofs.Ytkmcnekjimobhaa
set_option maxRecDepth 100000
theorem cntS_exact : ∀ (es : List Ex) (n : Nat), cntS es n <= 399 -> cntS es n = n + (es.map cntE).sum /\ ∀ e ∈ es, cntE e <= 399
  | [], n, h => ⟨by rw [cntS]; simp, fun e he => by cases he⟩
  | e :: es, n, h => by
    rw [cntS] at h
    obtain ⟨h1, h2⟩ := cntS_exact es _ h
    rw [cntS, h1]
    have h3 : min (n + cntE e) 400 <= 399 := by omega
    have h4 : n + cntE e <= 399 := by omega
    refine ⟨by rw [List.map_cons, List.sum_cons, Nat.min_eq_left (by omega)]; omega, fun x hx => ?_⟩
    rcases List.mem_cons.1 hx with rfl | hx
    · omega
    · exact h2 x hx
theorem lS_cnt : ∀ (ks : List Ex), (∀ e ∈ ks, lE e + 1 <= 13 * cntE e) -> lS ks <= 13 * (ks.map cntE).sum
  | [], _ => Nat.zero_le _
  | e :: es, h => by
    have h1 := h e (by simp)
    have h2 := lS_cnt es fun x hx => h x (by simp [hx])
    rw [lS, List.map_cons, List.sum_cons]
    omega
theorem lA_cnt : ∀ (ks : List Ex), (∀ e ∈ ks, lE e + 1 <= 13 * cntE e) -> lA ks <= 13 * (ks.map cntE).sum + ks.length
  | [], _ => Nat.zero_le _
  | e :: es, h => by
    have h1 := h e (by simp)
    have h2 := lA_cnt es fun x hx => h x (by simp [hx])
    rw [lA, List.map_cons, List.sum_cons, List.length_cons]
    split <;> omega
theorem lE_cnt {g : List Rl} (e : Ex) : Rt g e -> cntE e <= 400 -> lE e + 1 <= 13 * cntE e := by
  refine Ex.ind (P := fun e => Rt g e -> cntE e <= 400 -> lE e + 1 <= 13 * cntE e) ?_ e
  intro k a b c d t ks ih hr h
  cases hr with
  | mk _ _ _ _ _ _ _ hfit hname hkids =>
  have hfc := fit_cases hfit
  rw [cntE] at h
  have hin : (if k = 8 then 2 * cntS ks 0 + 1 else if k = 9 \/ k = 10 then cntS ks 0 + 1 else cntS ks 0) + 1 <= 400 := by omega
  have hS : cntS ks 0 <= 399 := by
    split at hin
    · omega
    · split at hin <;> omega
  obtain ⟨h1, h2⟩ := cntS_exact ks 0 hS
  rw [Nat.zero_add] at h1
  have hks : ∀ e ∈ ks, lE e + 1 <= 13 * cntE e := fun e he => ih e he (hkids e he) (by have := h2 e he; omega)
  rw [cntE, Nat.min_eq_left (by omega), h1]
  rw [lE]
  have hA := lA_cnt ks hks
  have hL := lS_cnt ks hks
  have htl : t.data.toList.length = t.size := size_list t
  by_cases k2 : k = 2
  · rw [if_pos k2]; split <;> (try split) <;> omega
  rw [if_neg k2]
  by_cases k3 : k = 3
  · rw [if_pos k3]; split <;> (try split) <;> omega
  rw [if_neg k3]
  by_cases k4 : k = 4
  · rw [if_pos k4]; split <;> (try split) <;> omega
  rw [if_neg k4]
  by_cases k5 : k = 5
  · rw [if_pos k5]; split <;> (try split) <;> omega
  rw [if_neg k5]
  by_cases k6 : k = 6
  · rw [if_pos k6]; split <;> (try split) <;> omega
  rw [if_neg k6]
  match ks, hks, hfc with
  | [], _, _ =>
    rw [lK]
    split <;> (try split) <;> simp <;> omega
  | [e], hks, _ =>
    have he := hks e (by simp)
    simp only [List.map_cons, List.map_nil, List.sum_cons, List.sum_nil, Nat.add_zero]
    by_cases k7 : k = 7
    · subst k7
      rw [lK, if_pos rfl, if_neg (by decide), if_neg (by decide)]
      omega
    by_cases k8 : k = 8
    · subst k8
      rw [lK, if_neg (by decide), if_pos rfl, if_pos rfl]
      omega
    by_cases k9 : k = 9
    · subst k9
      rw [lK, if_neg (by decide), if_neg (by decide), if_pos rfl, if_neg (by decide), if_pos (.inl rfl)]
      omega
    by_cases k10 : k = 10
    · subst k10
      rw [lK, if_neg (by decide), if_neg (by decide), if_neg (by decide), if_pos rfl, if_neg (by decide), if_pos (.inr rfl)]
      omega
    have hl : lK [e] k <= lE e + 2 := by
      rw [lK, if_neg k7, if_neg k8, if_neg k9, if_neg k10]
      split <;> omega
    rw [if_neg k8, if_neg (by omega)]
    omega
  | e1 :: e2 :: es, _, hfc => exfalso; simp at hfc; omega
theorem lR_cnt {g : List Rl} : ∀ (rs : List Rl), (∀ r ∈ rs, Rt g r.2) -> (rs.map fun r => cntE r.2).sum <= 400 -> lR rs <= 13 * (rs.map fun r => cntE r.2).sum
  | [], _, _ => Nat.zero_le _
  | r :: rs, h, hc => by
    rw [List.map_cons, List.sum_cons] at hc ⊢
    have h1 := lE_cnt r.2 (h r (by simp)) (by omega)
    have h2 := lR_cnt rs (fun x hx => h x (by simp [hx])) (by omega)
    rw [lR]
    omega
def makR (g : List Rl) : Int := if (wellG g).2 ≠ 0 then (wellG g).2 else kerR g
theorem makR_zero {g : List Rl} (h : makR g = 0) : WellG g /\ kerR g = 0 /\ lR g + 2 <= 6000 := by
  unfold makR at h
  split at h
  · rename_i h1; exact absurd h h1
  rename_i h1
  have W := well_of (by simpa using h1)
  refine ⟨W, h, ?_⟩
  unfold kerR at h
  split at h
  · rename_i h2; exact absurd h h2
  split at h
  · simp at h
  rename_i h3
  have := lR_cnt (g := g) g W.right.rt (by unfold cntG at h3; omega)
  unfold cntG at h3
  omega
theorem cpos_next {f : Nat -> Nat} : ∀ (xs : List In) (p i : Nat) (C : List Nat), cpos p xs = i :: C -> ∃ q x ys, xs = q ++ x :: ys /\ x.op = 5 /\ i = p + q.length /\ q.map (patch f) = q /\ C = cpos (p + q.length + 1) ys
  | [], p, i, C, h => by cases h
  | y :: xs, p, i, C, h => by
    rw [cpos] at h
    split at h
    · rename_i hy
      injection h with h1 h2
      exact ⟨[], y, xs, rfl, hy, by simp [h1], rfl, by rw [<- h2]; rfl⟩
    · rename_i hy
      obtain ⟨q, x, ys, rfl, h2, h3, h4, h5⟩ := cpos_next xs (p + 1) i C h
      exact ⟨y :: q, x, ys, rfl, h2, by rw [h3, List.length_cons]; omega, by rw [List.map_cons, h4, patch_other hy], by rw [h5, List.length_cons]; congr 1; omega⟩
theorem cpos_over {f : Nat -> Nat} : ∀ (xs : List In) (p : Nat), cpos p xs = [] -> xs.map (patch f) = xs
  | [], _, _ => rfl
  | y :: xs, p, h => by
    rw [cpos] at h
    split at h
    · cases h
    · rename_i hy
      rw [List.map_cons, cpos_over xs _ h, patch_other hy]
def CallsOk (n : Nat) (xs : List In) : Prop := ∀ x ∈ xs, x.op = 5 -> 0 <= x.n /\ x.n.toNat < n
section
variable {g : List Rl} {n : Nat}
theorem CallsOk.nil : CallsOk n [] := fun x h => by cases h
theorem CallsOk.cons {x : In} {xs : List In} (h : x.op = 5 -> 0 <= x.n /\ x.n.toNat < n) (h' : CallsOk n xs) : CallsOk n (x :: xs) := fun y hy => by
  rcases List.mem_cons.1 hy with rfl | hy
  · exact h
  · exact h' y hy
theorem CallsOk.app {xs ys : List In} (h : CallsOk n xs) (h' : CallsOk n ys) : CallsOk n (xs ++ ys) := fun y hy => (List.mem_append.1 hy).elim (h y) (h' y)
theorem CallsOk.iN {op m : Int} {xs : List In} (ho : op ≠ 5) (h' : CallsOk n xs) : CallsOk n (iN op m :: xs) := CallsOk.cons (fun e => absurd e ho) h'
theorem calls_S : ∀ (ks : List Ex) (p : Nat), (∀ e ∈ ks, ∀ p, CallsOk n (cE g id e p)) -> CallsOk n (cS g id ks p)
  | [], _, _ => CallsOk.nil
  | e :: es, p, h => by
    rw [cS]
    exact (h e (by simp) p).app (calls_S es _ fun x hx => h x (by simp [hx]))
theorem calls_A (fin : Nat) : ∀ (ks : List Ex) (p : Nat), (∀ e ∈ ks, ∀ p, CallsOk n (cE g id e p)) -> CallsOk n (cA g id ks p fin)
  | [], _, _ => CallsOk.nil
  | e :: es, p, h => by
    rw [cA]
    split
    · exact h e (by simp) p
    · exact CallsOk.iN (by decide) ((h e (by simp) _).app (CallsOk.iN (by decide) (calls_A fin es _ fun x hx => h x (by simp [hx]))))
theorem calls_star {xs : List In} {p : Nat} (h : CallsOk n xs) : CallsOk n (starI xs p) := CallsOk.iN (by decide) (h.app (CallsOk.iN (by decide) CallsOk.nil))
theorem calls_E (e : Ex) : Rt g e -> ∀ p, CallsOk g.length (cE g id e p) := by
  refine Ex.ind (P := fun e => Rt g e -> ∀ p, CallsOk g.length (cE g id e p)) ?_ e
  intro k a b c d t ks ih hr p
  cases hr with
  | mk _ _ _ _ _ _ _ hfit hname hkids =>
  have hks : ∀ e ∈ ks, ∀ p, CallsOk g.length (cE g id e p) := fun e he => ih e he (hkids e he)
  rw [cE]
  by_cases h2 : k = 2
  · rw [if_pos h2]; exact CallsOk.cons (fun e => absurd e (show (1 : Int) ≠ 5 by decide)) CallsOk.nil
  rw [if_neg h2]
  by_cases h3 : k = 3
  · rw [if_pos h3]
    intro x hx h5
    obtain ⟨u, _, rfl⟩ := List.mem_map.1 hx
    exact absurd h5 (show (1 : Int) ≠ 5 by decide)
  rw [if_neg h3]
  by_cases h4 : k = 4
  · rw [if_pos h4]
    obtain ⟨r, hrr, _⟩ := fnd_at (hname h4)
    refine CallsOk.cons (fun _ => ⟨Int.natCast_nonneg _, ?_⟩) CallsOk.nil
    exact getElem?_lt hrr
  rw [if_neg h4]
  by_cases h5 : k = 5
  · rw [if_pos h5]; exact calls_S ks p hks
  rw [if_neg h5]
  by_cases h6 : k = 6
  · rw [if_pos h6]; exact calls_A _ ks p hks
  rw [if_neg h6]
  cases ks with
  | nil => rw [cK]; exact CallsOk.nil
  | cons e es =>
    have he := hks e (by simp)
    rw [cK]
    split
    · exact calls_star (he _)
    split
    · exact (he _).app (calls_star (he _))
    split
    · exact CallsOk.iN (by decide) ((he _).app (CallsOk.iN (by decide) CallsOk.nil))
    split
    · exact CallsOk.iN (by decide) ((he _).app (CallsOk.iN (by decide) (CallsOk.iN (by decide) CallsOk.nil)))
    split
    · exact CallsOk.iN (by decide) ((he _).app (CallsOk.iN (by decide) CallsOk.nil))
    · exact CallsOk.nil
theorem calls_R : ∀ (rs : List Rl) (p : Nat), (∀ r ∈ rs, Rt g r.2) -> CallsOk g.length (cR g id rs p)
  | [], _, _ => CallsOk.nil
  | r :: rs, p, h => by
    rw [cR]
    exact (calls_E r.2 (h r (by simp)) p).app (CallsOk.iN (by decide) (calls_R rs _ fun x hx => h x (by simp [hx])))
end
def rawG (g : List Rl) : List In := iN 5 0 :: iN 8 0 :: cR g id g 2
theorem raw_patch (g : List Rl) : (rawG g).map (patch (adG g)) = codeG g := by
  unfold rawG codeG
  rw [List.map_cons, List.map_cons, patch_R, patch_iN (op := 8) (n := 0) (by decide)]
  congr 1
theorem raw_len (g : List Rl) : (rawG g).length = lR g + 2 := by
  unfold rawG
  rw [List.length_cons, List.length_cons, cR_len]
theorem raw_calls {g : List Rl} (h0 : 0 < g.length) (hr : ∀ r ∈ g, Rt g r.2) : CallsOk g.length (rawG g) := CallsOk.cons (fun _ => ⟨Int.le_refl _, h0⟩) (CallsOk.iN (by decide) (calls_R g 2 hr))
end Go.Proofs.Ytkmcnekjimobhaa
