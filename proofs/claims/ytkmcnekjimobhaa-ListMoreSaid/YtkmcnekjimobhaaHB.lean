/- What is known of the rules grows: the order of facts, well.of rises with what is known; plain. -/
import Derived.Test.YtkmcnekjimobhaaHA
import Derived.Test.YtkmcnekjimobhaaGC
import Derived.Deep.LoopGhost
import Derived.Laws.StructEq
namespace Go.Proofs.Ytkmcnekjimobhaa
open Go.RowKit

def bwt (b : Bool) : Nat := if b then 0 else 1
def faOrd : Ord Fa where
  le x y := (x.e = true → y.e = true) ∧ (x.a = true → y.a = true) ∧ (x.f = true → y.f = true)
  wt x := bwt x.e + bwt x.a + bwt x.f
  refl x := ⟨id, id, id⟩
  trans h k := ⟨fun e => k.1 (h.1 e), fun e => k.2.1 (h.2.1 e), fun e => k.2.2 (h.2.2 e)⟩
  lt := by
    rintro ⟨a, b, c⟩ ⟨a', b', c'⟩
    revert a b c a' b' c'
    decide
def boOrd : Ord Bool where
  le x y := x = true → y = true
  wt := bwt
  refl x := id
  trans h k := fun e => k (h e)
  lt := by decide

theorem bot_le (y : Fa) : faOrd.le ⟨false, false, false⟩ y := ⟨(fun h => by cases h), (fun h => by cases h), (fun h => by cases h)⟩
theorem then_mono {a b c d : Fa} (h : faOrd.le a b) (k : faOrd.le c d) : faOrd.le (thenF a c) (thenF b d) := by
  obtain ⟨a1, a2, a3⟩ := a
  obtain ⟨b1, b2, b3⟩ := b
  obtain ⟨c1, c2, c3⟩ := c
  obtain ⟨d1, d2, d3⟩ := d
  obtain ⟨h1, h2, h3⟩ := h
  obtain ⟨k1, k2, k3⟩ := k
  simp only at h1 h2 h3 k1 k2 k3
  refine ⟨?_, ?_, ?_⟩ <;> simp only [thenF, Bool.and_eq_true, Bool.or_eq_true] <;> grind
theorem or_mono {a b c d : Fa} (h : faOrd.le a b) (k : faOrd.le c d) : faOrd.le (orF a c) (orF b d) := by
  obtain ⟨h1, h2, h3⟩ := h
  obtain ⟨k1, k2, k3⟩ := k
  refine ⟨?_, ?_, ?_⟩ <;> simp only [orF, Bool.and_eq_true, Bool.or_eq_true] <;> grind
theorem star_mono {a b : Fa} (h : faOrd.le a b) : faOrd.le (starF a) (starF b) := ⟨h.2.2, h.2.1, id⟩
theorem seq_mono : ∀ {l m : List Fa}, LeL faOrd l m → faOrd.le (seqF l) (seqF m)
  | [], [], _ => by simp only [seqF]; exact faOrd.refl _
  | [], y :: ys, h => by have := h.1; simp at this
  | x :: xs, [], h => by have := h.1; simp at this
  | x :: xs, y :: ys, h => by
    simp only [seqF]
    have h0 := h.2 0 x y rfl rfl
    have ht : LeL faOrd xs ys := ⟨by have := h.1; simpa using this, fun i u v hu hv => h.2 (i + 1) u v (by simpa using hu) (by simpa using hv)⟩
    clear h
    induction xs generalizing ys x y with
    | nil =>
      cases ys with
      | nil => exact h0
      | cons z zs => have := ht.1; simp at this
    | cons u us ih =>
      cases ys with
      | nil => have := ht.1; simp at this
      | cons z zs =>
        simp only [List.foldl_cons]
        exact ih (thenF x u) (thenF y z) zs (then_mono h0 (ht.2 0 u z rfl rfl)) ⟨by have := ht.1; simpa using this, fun i p q hp hq => ht.2 (i + 1) p q (by simpa using hp) (by simpa using hq)⟩
theorem alt_mono : ∀ {l m : List Fa}, LeL faOrd l m → faOrd.le (altF l) (altF m)
  | [], [], _ => by simp only [altF]; exact faOrd.refl _
  | [], y :: ys, h => by have := h.1; simp at this
  | x :: xs, [], h => by have := h.1; simp at this
  | [x], [y], h => by simp only [altF]; exact h.2 0 x y rfl rfl
  | [x], y :: z :: zs, h => by have := h.1; simp at this
  | x :: u :: us, [y], h => by have := h.1; simp at this
  | x :: u :: us, y :: z :: zs, h => by
    simp only [altF]
    exact or_mono (h.2 0 x y rfl rfl) (alt_mono (l := u :: us) (m := z :: zs) ⟨by have := h.1; simpa using this, fun i p q hp hq => h.2 (i + 1) p q (by simpa using hp) (by simpa using hq)⟩)
theorem kid_mono : ∀ {l m : List Fa}, LeL faOrd l m → faOrd.le (kid0 l) (kid0 m)
  | [], [], _ => by simp only [kid0]; exact faOrd.refl _
  | [], y :: ys, h => by have := h.1; simp at this
  | x :: xs, [], h => by have := h.1; simp at this
  | x :: xs, y :: ys, h => by simp only [kid0]; exact h.2 0 x y rfl rfl
theorem ofEs_mono {g : List Rl} {l m : List Fa} (ks : List Ex) (ih : ∀ e ∈ ks, faOrd.le (ofE g l e) (ofE g m e)) : LeL faOrd (ofEs g l ks) (ofEs g m ks) := by
  refine ⟨by rw [ofEs_len, ofEs_len], fun i x y hx hy => ?_⟩
  rw [ofEs_at, Option.map_eq_some_iff] at hx hy
  obtain ⟨e, he, rfl⟩ := hx
  obtain ⟨e', he', rfl⟩ := hy
  rw [he] at he'
  injection he' with he'
  subst he'
  exact ih e (List.mem_of_getElem? he)
theorem of_mono {g : List Rl} {l m : List Fa} (h : LeL faOrd l m) (e : Ex) : faOrd.le (ofE g l e) (ofE g m e) := by
  refine Ex.ind (P := fun e => faOrd.le (ofE g l e) (ofE g m e)) ?_ e
  intro k a b c d t ks ih
  have hk := ofEs_mono ks ih
  have h0 := kid_mono hk
  rw [ofE, ofE]
  by_cases k1 : k = 1
  · rw [if_pos k1, if_pos k1]
    exact faOrd.refl _
  rw [if_neg k1, if_neg k1]
  by_cases k2 : k = 2
  · rw [if_pos k2, if_pos k2]
    exact faOrd.refl _
  rw [if_neg k2, if_neg k2]
  by_cases k3 : k = 3
  · rw [if_pos k3, if_pos k3]
    exact faOrd.refl _
  rw [if_neg k3, if_neg k3]
  by_cases k4 : k = 4
  · rw [if_pos k4, if_pos k4]
    have hl := h.1
    by_cases hi : (fnd g t.data.toList).toNat < l.length
    · have h1 : l[(fnd g t.data.toList).toNat]? = some l[(fnd g t.data.toList).toNat] := List.getElem?_eq_getElem hi
      have h2 : m[(fnd g t.data.toList).toNat]? = some (m[(fnd g t.data.toList).toNat]'(by omega)) := List.getElem?_eq_getElem (by omega)
      have := h.2 _ _ _ h1 h2
      simp only [List.getD, h1, h2, Option.getD_some]
      exact this
    · simp only [List.getD, List.getElem?_eq_none (show l.length ≤ (fnd g t.data.toList).toNat by omega), List.getElem?_eq_none (show m.length ≤ (fnd g t.data.toList).toNat by omega)]
      exact faOrd.refl _
  rw [if_neg k4, if_neg k4]
  by_cases k5 : k = 5
  · rw [if_pos k5, if_pos k5]
    exact seq_mono hk
  rw [if_neg k5, if_neg k5]
  by_cases k6 : k = 6
  · rw [if_pos k6, if_pos k6]
    exact alt_mono hk
  rw [if_neg k6, if_neg k6]
  by_cases k7 : k = 7
  · rw [if_pos k7, if_pos k7]
    exact star_mono h0
  rw [if_neg k7, if_neg k7]
  by_cases k8 : k = 8
  · rw [if_pos k8, if_pos k8]
    exact then_mono h0 (star_mono h0)
  rw [if_neg k8, if_neg k8]
  by_cases k9 : k = 9
  · rw [if_pos k9, if_pos k9]
    exact or_mono h0 (faOrd.refl _)
  rw [if_neg k9, if_neg k9]
  obtain ⟨h1, h2, h3⟩ := h0
  have h12 : ((kid0 (ofEs g l ks)).e || (kid0 (ofEs g l ks)).a) = true → ((kid0 (ofEs g m ks)).e || (kid0 (ofEs g m ks)).a) = true := by
    simp only [Bool.or_eq_true]
    rintro (h | h)
    · exact .inl (h1 h)
    · exact .inr (h2 h)
  by_cases k10 : k = 10
  · rw [if_pos k10, if_pos k10]
    exact ⟨h12, id, h3⟩
  rw [if_neg k10, if_neg k10]
  exact ⟨h3, id, h12⟩

/-- the facts of a rule, by what is known of all -/
def nxF (g : List Rl) (kn : List Fa) (i : Nat) : Fa := match g[i]? with
  | some r => ofE g kn r.2
  | none => ⟨false, false, false⟩
def factsG (g : List Rl) : List Fa := growG (nxF g) (wtL faOrd (List.replicate g.length ⟨false, false, false⟩) + 1) (List.replicate g.length ⟨false, false, false⟩)
theorem nxF_mono (g : List Rl) (n : Nat) : Mono faOrd (nxF g) n := by
  intro l m _ h i
  unfold nxF
  split
  · exact of_mono h _
  · exact faOrd.refl _
theorem low_zero (g : List Rl) : Low faOrd (nxF g) (List.replicate g.length ⟨false, false, false⟩) := by
  intro i x hx
  rw [List.getElem?_replicate] at hx
  split at hx
  · injection hx with hx
    subst hx
    exact bot_le _
  · cases hx
theorem facts_len (g : List Rl) : (factsG g).length = g.length := by
  unfold factsG
  rw [(grow_keeps (nx := nxF g) (P := fun _ => True) (fun _ _ _ _ _ => trivial) _ _ trivial).2]
  simp
theorem facts_fix (g : List Rl) (i : Nat) (hi : i < g.length) : (factsG g)[i]? = some (nxF g (factsG g) i) :=
  grow_fix (nxF_mono g g.length) _ _ (by simp) (low_zero g) (by omega) i hi
theorem facts_least (g : List Rl) {top : List Fa} (ht : top.length = g.length) (h : ∀ (i : Nat) (y : Fa), top[i]? = some y → faOrd.le (nxF g top i) y) : LeL faOrd (factsG g) top :=
  grow_least (nxF_mono g g.length) ht h _ _ (by simp) ⟨by simp [ht], fun i x y hx _ => by
    rw [List.getElem?_replicate] at hx
    split at hx
    · injection hx with hx
      subst hx
      exact bot_le _
    · cases hx⟩
end Go.Proofs.Ytkmcnekjimobhaa

/- What well.facts and well.Facts answer. -/
namespace Go.Proofs.Ytkmcnekjimobhaa
open Go.RowKit

set_option maxRecDepth 100000 in
set_option maxHeartbeats 4000000 in
theorem fac1_any {g : List Rl} {A : Option Addr} {cp : Nat} {row : Nat → List Value} {kn : List Fa} {KA : Option Addr} {kcp gb i : Nat} {W : World} (hlen : kn.length = g.length) (hG : GrIs W W.heap.size g A cp row) (hF : Reads W W.heap.size 3 KA kn.length (facs kn))
    (hgb : Blk W gb 24 #[.slice A g.length cp]) (hR : ∀ r ∈ g, Rt g r.2) (hi : i < g.length) :
    Calls Try.prog 92 #[.slice KA kn.length kcp, .int .i64 i, .pointer (some ⟨gb, 0, none⟩)] W (OfQ (nxF g kn i) W) := by
  have hm := hG.cap
  have hle := hG.le
  unfold maxLen at hm
  obtain ⟨ad, nm, k', a', b', c', d', t', ks', A', cp', rfl, hab, hej, hnm, hE, hS⟩ := hG.rule hi
  have hx : nxF g kn i = ofE g kn (.mk k' a' b' c' d' t' ks') := by unfold nxF; rw [hej]
  have hcall := fun (W' : World) (h : Below W.heap.size W W') => of_any (fcp := kcp) hlen _ _ W' ((hG.on h).more h.size) ((hF.below h).more h.size) ((hE.on h).keep h.size fun _ _ => rfl) (hR _ (List.mem_of_getElem? hej))
  unfold exCells at hcall
  rw [hx]
  generalize ofE g kn (.mk k' a' b' c' d' t' ks') = x at hcall
  have HC := Lib.hid hcall
  have gl := hgb.lt
  have hcc : ∀ W', Below (W.heap.size + 1) (W.alloc (.cells #[.bool false, .bool false, .bool false] 175)) W' →
      W'.cell? ⟨gb, 0, none⟩ = some (.slice (some ad) g.length cp) ∧ Eight W' (ad.add (i * 8)) nm k' a' b' c' d' t' A' ks'.length cp' := fun W' hW' =>
    have hk := fun (q : Addr) (hq : q.block = (ad.add (i * 8)).block) => (hW'.cell (p := q) (by rw [hq, add_block]; omega)).trans (World.cell?_alloc_lt W _ q (by rw [hq, add_block]; omega))
    ⟨((hgb.alloc _).below hW' (by omega)).cell 0, (hk _ rfl).trans hS.c0, (hk ⟨_, _, none⟩ rfl).trans hS.c1, (hk ⟨_, _, none⟩ rfl).trans hS.c2, (hk ⟨_, _, none⟩ rfl).trans hS.c3, (hk ⟨_, _, none⟩ rfl).trans hS.c4, (hk ⟨_, _, none⟩ rfl).trans hS.c5, (hk ⟨_, _, none⟩ rfl).trans hS.c6, (hk ⟨_, _, none⟩ rfl).trans hS.c7⟩
  have HCC := Lib.hid hcc
  have HLEN := Lib.hid hlen
  clear hcc hS hgb hcall hE hej hx hF hG hR hlen hnm
  go_enter Try.func92, Try.ntmps92
  go_wp2_with fail
  refine wp_region_tail (C := fun W' => Below (W.heap.size + 1) (W.alloc (.cells #[.bool false, .bool false, .bool false] 175)) W') 9 (by kernel_rfl) (by kernel_rfl) (Below.drew (Below.refl _ _)) ?_
  repeat
    (first | refine wpQuiet_no rfl ?_ | (apply wpQuiet_yes rfl; · (intro W hW; obtain ⟨q1, ⟨s0, s1, s2, s3, s4, s5, s6, s7⟩⟩ := HCC.out W hW; go_simp; first | rfl | (go_at_call 93; refine (HC.out _ ((Below.alloc (Below.refl _ _) (Nat.le_refl _) _).trans (hW.mono (by omega)))).mono ?_; exact fun e w' h => ⟨h.1, hW.trans (h.2.mono (by have := hW.size; simp at this; omega))⟩)))); (try simp only [Act.put, List.setIfInBounds_toArray, List.set_cons_zero, List.set_cons_succ])
  refine wpQuiet_nil ?_
  intro w1 hw1
  have hbr : Blk w1 W.heap.size 175 #[.bool false, .bool false, .bool false] := (blk_at rfl).below hw1 (by omega)
  have z0 : w1.cell? ⟨W.heap.size, 0, none⟩ = some (.bool false) := hbr.cell 0; have z1 : w1.cell? ⟨W.heap.size, 1, none⟩ = some (.bool false) := hbr.cell 1; have z2 : w1.cell? ⟨W.heap.size, 2, none⟩ = some (.bool false) := hbr.cell 2; have f0 := hbr.frozen 0; have f1 := hbr.frozen 1; have f2 := hbr.frozen 2; have e0 : (w1.setCell ⟨W.heap.size, 0, none⟩ (.bool x.e)).cell? ⟨W.heap.size, 0, none⟩ = some (.bool x.e) := (hbr.set_ 0 _).cell 0; have e1 : ((w1.setCell ⟨W.heap.size, 0, none⟩ (.bool x.e)).setCell ⟨W.heap.size, 1, none⟩ (.bool x.a)).cell? ⟨W.heap.size, 1, none⟩ = some (.bool x.a) := ((hbr.set_ 0 _).set_ 1 _).cell 1; have e2 : (((w1.setCell ⟨W.heap.size, 0, none⟩ (.bool x.e)).setCell ⟨W.heap.size, 1, none⟩ (.bool x.a)).setCell ⟨W.heap.size, 2, none⟩ (.bool x.f)).cell? ⟨W.heap.size, 2, none⟩ = some (.bool x.f) := (((hbr.set_ 0 _).set_ 1 _).set_ 2 _).cell 2
  have hb1 : Below W.heap.size W w1 := ((Below.refl _ _).alloc (Nat.le_refl _) _).trans (hw1.mono (by omega))
  have hz := hb1.size
  clear hbr hw1
  simp only [List.drop]
  go_wp2
  exact bodyPost_ret (v := .agg #[.bool x.e, .bool x.a, .bool x.f]) (by simp [results, Try.results92, go_sem, e0, e1, e2]) rfl ⟨rfl, (by repeat (first | exact Below.refl _ _ | assumption | refine Below.drew ?_ | refine below_drewN ?_ _ | refine Below.alloc ?_ (by first | omega | (simp; omega) | simp) _ | refine Below.setCell ?_ (by first | omega | (simp; omega) | simp) _))⟩

theorem facs_set : ∀ (fs : List Fa) (i : Nat) (x : Fa), i < fs.length → (((facs fs).set (i * 3) (.bool x.e)).set (i * 3 + 1) (.bool x.a)).set (i * 3 + 2) (.bool x.f) = facs (fs.set i x)
  | [], i, x, h => by simp at h
  | y :: fs, 0, x, _ => by
    show ((([Value.bool y.e, .bool y.a, .bool y.f] ++ facs fs).set 0 _).set 1 _).set 2 _ = [Value.bool x.e, .bool x.a, .bool x.f] ++ facs fs
    rfl
  | y :: fs, i + 1, x, h => by
    have ih := facs_set fs i x (by simpa using h)
    show ((([Value.bool y.e, .bool y.a, .bool y.f] ++ facs fs).set ((i + 1) * 3) _).set ((i + 1) * 3 + 1) _).set ((i + 1) * 3 + 2) _ = [Value.bool y.e, .bool y.a, .bool y.f] ++ facs (fs.set i x)
    rw [← ih]
    have e : (i + 1) * 3 = i * 3 + 3 := by omega
    rw [e]
    rfl
theorem facs_zero (n : Nat) : facs (List.replicate n ⟨false, false, false⟩) = List.replicate (n * 3) (.bool false) := by
  induction n with
  | zero => rfl
  | succ n ih =>
    rw [List.replicate_succ]
    show [Value.bool false, .bool false, .bool false] ++ facs _ = _
    rw [ih, show (n + 1) * 3 = n * 3 + 1 + 1 + 1 by omega, List.replicate_succ, List.replicate_succ, List.replicate_succ]
    rfl
theorem addr0 (b n : Nat) : ((⟨b, 0, none⟩ : Addr).add n) = ⟨b, n, none⟩ := by
  cases n with
  | zero => rfl
  | succ n => simp [Addr.add]
theorem info_facts : (Try.prog.info? 175).map (fun i => (i.zero, i.size, i.bytes)) = some (some (.agg #[.bool false, .bool false, .bool false]), 3, 3) := by kernel_rfl
theorem made_facts (n : Nat) : madeCells (Value.agg #[.bool false, .bool false, .bool false]).cells (n * 3) = (facs (List.replicate n ⟨false, false, false⟩)).toArray := by
  rw [facs_zero]
  apply Array.ext
  · simp [size_madeCells]
  · intro i h1 h2
    simp [madeCells, Value.cells]
    have : i % 3 = 0 ∨ i % 3 = 1 ∨ i % 3 = 2 := by omega
    rcases this with h | h | h <;> simp [h]

/-- the rules' facts in a block of their own -/
def FacB (w : World) (b : Nat) (kn : List Fa) : Prop := Blk w b 175 (facs kn).toArray
theorem FacB.reads {w : World} {b B : Nat} {kn : List Fa} (h : FacB w b kn) (hb : b < B) : Reads w B 3 (some ⟨b, 0, none⟩) kn.length (facs kn) :=
  ⟨facs_len kn, fun _ => ⟨_, rfl, hb, World.news_of_block h⟩⟩
theorem FacB.cells {w : World} {b i : Nat} {kn : List Fa} {x : Fa} (h : FacB w b kn) (hx : kn[i]? = some x) :
    w.cell? ⟨b, i * 3, none⟩ = some (.bool x.e) ∧ w.cell? ⟨b, i * 3 + 1, none⟩ = some (.bool x.a) ∧ w.cell? ⟨b, i * 3 + 2, none⟩ = some (.bool x.f) := by
  have h0 := facs_get kn i 0 x hx (by omega)
  have h1 := facs_get kn i 1 x hx (by omega)
  have h2 := facs_get kn i 2 x hx (by omega)
  refine ⟨(Blk.cell h (i * 3)).trans ?_, (Blk.cell h (i * 3 + 1)).trans ?_, (Blk.cell h (i * 3 + 2)).trans ?_⟩
  · rw [List.getElem?_toArray]; exact h0
  · rw [List.getElem?_toArray]; exact h1
  · rw [List.getElem?_toArray]; exact h2
theorem FacB.put {w : World} {b i : Nat} {kn : List Fa} (h : FacB w b kn) (hi : i < kn.length) (x : Fa) :
    FacB (((w.setCell ⟨b, i * 3, none⟩ (.bool x.e)).setCell ⟨b, i * 3 + 1, none⟩ (.bool x.a)).setCell ⟨b, i * 3 + 2, none⟩ (.bool x.f)) b (kn.set i x) := by
  have h1 := ((Blk.set_ h (i * 3) (.bool x.e)).set_ (i * 3 + 1) (.bool x.a)).set_ (i * 3 + 2) (.bool x.f)
  unfold FacB
  rw [← facs_set kn i x hi]
  simpa using h1

theorem run_same_facts (w : World) (x y : Fa) : (Op.equalIn 10000 175 (.agg #[.bool x.e, .bool x.a, .bool x.f]) (.agg #[.bool y.e, .bool y.a, .bool y.f])).run Try.prog w = .ok (decide (x = y)) w := by
  have u4 := Try.underlying4
  have a4 := Try.isAgg4
  have z4 := Try.sizeOf4
  have hS : Try.prog.underlying 175 = some (.struct (Try.prog.fieldsOf 175)) := by kernel_rfl
  have hp : Try.prog.stoodInHeld 175 = false := by kernel_rfl
  rw [show (10000 : Nat) = 9999 + 1 from rfl, run_equalIn_agg w 9999 175 _ _ hS hp]
  simp only [Program.fieldsOf, Try.underlying175]
  obtain ⟨a, b, c⟩ := x
  obtain ⟨a', b', c'⟩ := y
  go_simp
  cases a <;> cases b <;> cases c <;> cases a' <;> cases b' <;> cases c' <;> simp

set_option maxRecDepth 100000 in
set_option maxHeartbeats 4000000 in
theorem growF_any {g : List Rl} {A : Option Addr} {cp : Nat} {row : Nat → List Value} {w : World} {gb : Nat} (h : GrIs w w.heap.size g A cp row) (hgb : Blk w gb 24 #[.slice A g.length cp]) (hR : ∀ r ∈ g, Rt g r.2) (h10 : g.length ≤ 10) :
    Calls Try.prog 91 #[.int .i64 g.length, .func (.func 92) #[] #[.pointer (some ⟨gb, 0, none⟩)]] w fun e w' => e = .returned (.slice (some ⟨w.heap.size, 0, none⟩) g.length g.length) ∧ FacB w' w.heap.size (factsG g) ∧ Below w.heap.size w w' := by
  obtain ⟨i0, hi, hz0, hz1, hz2⟩ := info_parts info_facts
  have hmk := made_run Try.underlying123 hi hz0 .i64 .i64 (n := g.length) (c := g.length) (Nat.le_refl _) (by rw [hz2]; omega) (by omega)
  rw [hz1, made_facts] at hmk
  have hgl := hgb.lt
  have hnx : ∀ (W : World) (kn : List Fa) (i : Nat), kn.length = g.length → Below w.heap.size w W → FacB W w.heap.size kn → i < g.length →
      Calls Try.prog 92 #[.slice (some ⟨w.heap.size, 0, none⟩) g.length g.length, .int .i64 i, .pointer (some ⟨gb, 0, none⟩)] W (OfQ (nxF g kn i) W) := by
    intro W kn i hlen hW hb hi
    have := fac1_any (kcp := g.length) hlen ((h.on hW).more hW.size) (hb.reads (B := W.heap.size) (Blk.lt hb)) (hgb.below hW hgl) hR hi
    rw [hlen] at this
    exact this
  have HNX := Lib.hid hnx
  have hn0 : (List.replicate g.length (⟨false, false, false⟩ : Fa)).length = g.length := by simp
  have hlow := low_zero g
  have HRES : Hid (factsG g = growG (nxF g) (wtL faOrd (List.replicate g.length ⟨false, false, false⟩) + 1) (List.replicate g.length ⟨false, false, false⟩)) := by exact rfl
  generalize (List.replicate g.length (⟨false, false, false⟩ : Fa)) = k0 at hmk hn0 hlow HRES
  have HN0 := Lib.hid hn0
  have HLOW := Lib.hid hlow
  generalize factsG g = res at HRES ⊢
  clear h hgb hR hnx hn0 hlow hz0 hz1 hz2 hi
  go_enter Try.func91, Try.ntmps91
  go_wp2
  go_loopg [6] (wtL faOrd k0 + 1) (fun n s6 wr => ∃ (kn : List Fa) (m : Bool), s6 = .bool m ∧ Hid (kn.length = g.length) ∧ Hid (Low faOrd (nxF g) kn) ∧ Hid (m = true → wtL faOrd kn < n ∧ growG (nxF g) n kn = res) ∧ Hid (m = false → kn = res) ∧ FacB wr w.heap.size kn ∧ Below w.heap.size w wr)
  case atStart => exact ⟨k0, true, rfl, HN0, HLOW, fun _ => ⟨by omega, HRES.out.symm⟩, (fun h => by cases h), blk_at rfl, (by repeat (first | exact Below.refl _ _ | assumption | refine Below.drew ?_ | refine below_drewN ?_ _ | refine Below.alloc ?_ (by first | omega | (simp; omega) | simp) _ | refine Below.setCell ?_ (by first | omega | (simp; omega) | simp) _))⟩
  case round =>
    obtain ⟨kn, m, rfl, HL, HLO, HT, HFa, hfb, hwr⟩ := hrel
    cases m
    · obtain rfl : kn = res := HFa.out rfl
      go_wp2
      go_ret
      exact ⟨rfl, hfb, hwr⟩
    · obtain ⟨hlt, hgr⟩ := HT.out rfl
      obtain ⟨f, rfl⟩ : ∃ f, gk = f + 1 := ⟨gk - 1, by omega⟩
      have hr0 : Hid (roundG (nxF g) (g.length - 0) 0 kn false = roundG (nxF g) kn.length 0 kn false) := by show _ = _; rw [HL.out, Nat.sub_zero]
      have HGR : Hid ((if (roundG (nxF g) kn.length 0 kn false).2 = true then growG (nxF g) f (roundG (nxF g) kn.length 0 kn false).1 else (roundG (nxF g) kn.length 0 kn false).1) = res) := by
        show _ = _
        rw [← hgr, growG]
      have hk := round_keeps (nx := nxF g) (P := fun l => l.length = g.length ∧ Low faOrd (nxF g) l) (fun l i h hi hne => ⟨by simp; exact h.1, (low_step (by rw [h.1]; exact nxF_mono g _) h.2 hi hne).1⟩) kn.length 0 kn false (by omega) ⟨HL.out, HLO.out⟩
      have hw := round_wt (nxF_mono g g.length) kn.length 0 kn false HL.out (by rw [HL.out]; omega) HLO.out
      generalize roundG (nxF g) kn.length 0 kn false = r at hr0 HGR hk hw
      have HK := Lib.hid hk
      have HW := Lib.hid hw
      have HLT := Lib.hid hlt
      clear HT HFa hgr hk hw hlt HLO
      go_wp2
      go_loopw [6, 14] (fun s6 i wr => ∃ (j : Nat) (kn' : List Fa) (m' : Bool), j ≤ g.length ∧ i = .int .i64 j ∧ s6 = .bool m' ∧ Hid (roundG (nxF g) (g.length - j) j kn' m' = r) ∧ Hid (kn'.length = g.length) ∧ FacB wr w.heap.size kn' ∧ Below w.heap.size w wr) (fun _ i _ => g.length - (intOf i).toNat)
      case atStart => exact ⟨0, kn, false, by omega, rfl, rfl, hr0, HL, hfb, hwr⟩
      case round =>
        clear hfb hwr hr0 HL
        obtain ⟨j, kn', m', hj, rfl, rfl, HR, HL, hfb, hwr⟩ := hrel
        by_cases hjn : j < g.length
        · have hcall := HNX.out wr kn' j HL.out hwr hfb hjn
          have hy : kn'[j]? = some (kn'[j]'(by rw [HL.out]; exact hjn)) := List.getElem?_eq_getElem _
          generalize kn'[j]'(by rw [HL.out]; exact hjn) = y at hy
          have HRS : Hid (roundG (nxF g) (g.length - j) j kn' m' = if nxF g kn' j = y then roundG (nxF g) (g.length - (j + 1)) (j + 1) kn' m' else roundG (nxF g) (g.length - (j + 1)) (j + 1) (kn'.set j (nxF g kn' j)) true) := by
            show _ = _
            rw [show g.length - j = (g.length - (j + 1)) + 1 by omega, roundG, hy]
            by_cases h : nxF g kn' j = y
            · rw [if_pos h, if_pos (by rw [h])]
            · rw [if_neg h, if_neg (fun e => h (by injection e with e; exact e.symm))]
          generalize nxF g kn' j = x at hcall HRS
          have HY := Lib.hid hy
          have HC := Lib.hid hcall
          have hadr := addr0 w.heap.size (j * 3)
          have hbl := Blk.lt hfb
          clear hy hcall
          go_wp2_with fail
          refine HC.out.mono ?_
          rintro e w1 ⟨rfl, hb1⟩
          have hf1 : FacB w1 w.heap.size kn' := Blk.below hfb hb1 hbl
          have hw1 : Below w.heap.size wr w1 := Below.trans (by repeat (first | exact Below.refl _ _ | assumption | refine Below.drew ?_ | refine below_drewN ?_ _ | refine Below.alloc ?_ (by first | omega | (simp; omega) | simp) _ | refine Below.setCell ?_ (by first | omega | (simp; omega) | simp) _)) (hb1.mono (by first | omega | (simp; omega) | simp)); have hzw1 := hw1.size
          have hww : Below w.heap.size w w1 := hwr.trans hw1
          clear hb1
          have hbox : Blk (w1.alloc (.cells #[.bool x.e, .bool x.a, .bool x.f] 175)) w1.heap.size 175 #[.bool x.e, .bool x.a, .bool x.f] := blk_at rfl
          have hq := fun w => run_same_facts w x y
          obtain ⟨eb, hxy⟩ : ∃ eb, decide (x = y) = eb := ⟨_, rfl⟩
          simp only [hxy] at hq
          have HXY := Lib.hid hxy
          clear hxy
          have hf2 : FacB (w1.alloc (.cells #[.bool x.e, .bool x.a, .bool x.f] 175)) w.heap.size kn' := Blk.alloc hf1 _
          have hw2 : Below w.heap.size w (w1.alloc (.cells #[.bool x.e, .bool x.a, .bool x.f] 175)) := (by repeat (first | exact Below.refl _ _ | assumption | refine Below.drew ?_ | refine below_drewN ?_ _ | refine Below.alloc ?_ (by first | omega | (simp; omega) | simp) _ | refine Below.setCell ?_ (by first | omega | (simp; omega) | simp) _))
          go_wp2
          generalize w1.alloc (.cells #[.bool x.e, .bool x.a, .bool x.f] 175) = w2 at hbox hf2 hw2 ⊢
          obtain ⟨c0, c1, c2⟩ := hf2.cells HY.out
          have b0 : w2.cell? ⟨w1.heap.size, 0, none⟩ = some (.bool x.e) := hbox.cell 0
          have b1 : w2.cell? ⟨w1.heap.size, 1, none⟩ = some (.bool x.a) := hbox.cell 1
          have b2 : w2.cell? ⟨w1.heap.size, 2, none⟩ = some (.bool x.f) := hbox.cell 2
          have hj0 : (0 : Int) ≤ (j : Int) := by omega
          have hj1 : (j : Int) < (g.length : Int) := by omega
          go_quiet (fail)
          have hbox3 := hbox.drewN nq
          have hf3 : FacB (w2.drewN nq) w.heap.size kn' := Blk.drewN hf2 nq
          have hw3 : Below w.heap.size w (w2.drewN nq) := below_drewN hw2 nq
          generalize w2.drewN nq = w3 at hbox3 hf3 hw3 ⊢
          clear c0 c1 c2 b0 b1 b2 hbox hf2 hw2 hq
          cases eb
          · have HN : Hid (roundG (nxF g) (g.length - (j + 1)) (j + 1) (kn'.set j x) true = r) := by
              show _ = _
              rw [← HR.out, HRS.out, if_neg (of_decide_eq_false HXY.out)]
            obtain ⟨c0, c1, c2⟩ := hf3.cells HY.out
            have b0 : w3.cell? ⟨w1.heap.size, 0, none⟩ = some (.bool x.e) := hbox3.cell 0
            have b1 : w3.cell? ⟨w1.heap.size, 1, none⟩ = some (.bool x.a) := hbox3.cell 1
            have b2 : w3.cell? ⟨w1.heap.size, 2, none⟩ = some (.bool x.f) := hbox3.cell 2
            have f0 := Blk.frozen hf3 (j * 3)
            have f1 := Blk.frozen hf3 (j * 3 + 1)
            have f2 := Blk.frozen hf3 (j * 3 + 2)
            have hf4 := hf3.put (by rw [HL.out]; exact hjn) x
            have hw4 : Below w.heap.size w (((w3.setCell ⟨w.heap.size, j * 3, none⟩ (.bool x.e)).setCell ⟨w.heap.size, j * 3 + 1, none⟩ (.bool x.a)).setCell ⟨w.heap.size, j * 3 + 2, none⟩ (.bool x.f)) := ((hw3.setCell (Nat.le_refl _) _).setCell (Nat.le_refl _) _).setCell (Nat.le_refl _) _
            have HLL : Hid ((kn'.set j x).length = g.length) := by show _ = _; rw [List.length_set]; exact HL.out
            clear hbox3 hf3 hw3 HRS
            go_wp2
            go_roundw
            case rel => exact ⟨j + 1, kn'.set j x, true, by omega, by go_num, rfl, HN, HLL, hf4, hw4⟩
            case measure => simp [intOf]; omega
          · have HN : Hid (roundG (nxF g) (g.length - (j + 1)) (j + 1) kn' m' = r) := by
              show _ = _
              rw [← HR.out, HRS.out, if_pos (of_decide_eq_true HXY.out)]
            clear HRS
            go_wp2
            go_roundw
            case rel => exact ⟨j + 1, kn', m', by omega, by go_num, rfl, HN, HL, hf3, hw3⟩
            case measure => simp [intOf]; omega
        · obtain rfl : j = g.length := by omega
          obtain rfl : r = (kn', m') := by rw [← HR.out, Nat.sub_self, roundG]
          have hlow := HK.out.1.2
          have hwt := HW.out
          have hlt := HLT.out
          have HLO : Hid (Low faOrd (nxF g) kn') := hlow
          have HT : Hid (m' = true → wtL faOrd kn' < f ∧ growG (nxF g) f kn' = res) := by
            intro hm
            refine ⟨?_, ?_⟩
            · rcases hwt.2 hm with h | h
              · cases h
              · have : wtL faOrd kn' < wtL faOrd kn := h
                omega
            · have := HGR.out
              rw [if_pos hm] at this
              exact this
          have HFa : Hid (m' = false → kn' = res) := by
            intro hm
            have := HGR.out
            rw [if_neg (by simp [hm])] at this
            exact this
          clear hlow hwt hlt HR
          go_wp2
          go_roundg f
          case rel => exact ⟨kn', m', rfl, HL, HLO, HT, HFa, hfb, hwr⟩
          case measure => omega
end Go.Proofs.Ytkmcnekjimobhaa

/- What well.facts, well.loops answer; plain: loops, sound. -/
namespace Go.Proofs.Ytkmcnekjimobhaa
open Go.RowKit

set_option maxRecDepth 100000 in
theorem facts_any {g : List Rl} {A : Option Addr} {cp : Nat} {row : Nat → List Value} {w : World} (h : GrIs w w.heap.size g A cp row) (hR : ∀ r ∈ g, Rt g r.2) (h10 : g.length ≤ 10) :
    Calls Try.prog 56 #[.agg #[.slice A g.length cp]] w fun e w' => ∃ b, e = .returned (.slice (some ⟨b, 0, none⟩) g.length g.length) ∧ FacB w' b (factsG g) ∧ w.heap.size ≤ b ∧ Below w.heap.size w w' := by
  have hbg : Blk (w.alloc (.cells #[.slice A g.length cp] 24)) w.heap.size 24 #[.slice A g.length cp] := blk_at rfl
  have hgr := growF_any (w := w.alloc (.cells #[.slice A g.length cp] 24)) ((h.on ((Below.refl _ _).alloc (Nat.le_refl _) _)).more (by simp)) hbg hR h10
  have HG := Lib.hid hgr
  clear hgr h hR hbg
  go_enter Try.func56, Try.ntmps56
  go_wp2_with fail
  refine HG.out.mono ?_
  rintro e w1 ⟨rfl, hf, hb1⟩
  have hw1 : Below w.heap.size w w1 := ((Below.refl _ w).alloc (Nat.le_refl _) _).trans (hb1.mono (by simp))
  clear hb1
  go_wp2
  go_ret
  exact ⟨_, rfl, (by rw [World.size_alloc] at hf; exact hf), by simp, hw1⟩

theorem run_empty (e a f : Bool) (w : World) : (Instr.field 175 (.agg #[.bool e, .bool a, .bool f]) 0).run Try.prog w = .ok (.bool e) w := by kernel_rfl

mutual
/-- is something taken again and again that may take no byte? -/
def loopsE (g : List Rl) (fs : List Fa) : Ex → Bool
  | .mk k _ _ _ _ _ ks => ((k == 7 || k == 8) && (kid0 (ofEs g fs ks)).e) || loopsEs g fs ks
def loopsEs (g : List Rl) (fs : List Fa) : List Ex → Bool
  | [] => false
  | e :: es => loopsE g fs e || loopsEs g fs es
end
mutual
/-- does it come to an end, if the rules do that are known to? -/
def soundE (g : List Rl) (fs : List Fa) (kn : List Bool) : Ex → Bool
  | .mk k _ _ _ _ t ks => if k = 4 then kn.getD (fnd g t.data.toList).toNat false else if k = 5 then soundS g fs kn ks else soundA g fs kn ks
def soundS (g : List Rl) (fs : List Fa) (kn : List Bool) : List Ex → Bool
  | [] => true
  | e :: es => if soundE g fs kn e = false then false else if (ofE g fs e).e = false then true else soundS g fs kn es
def soundA (g : List Rl) (fs : List Fa) (kn : List Bool) : List Ex → Bool
  | [] => true
  | e :: es => if soundE g fs kn e = false then false else soundA g fs kn es
end

/-- the boxes of a grammar and of an expression, one behind the other from block b on -/
structure Box2 (A KA : Option Addr) (m cp kn kcp : Nat) (k a b c d : Int) (t : ByteArray) (w W : World) : Prop where
  bel : Below w.heap.size w W
  x3 : Blk W w.heap.size 24 #[.slice A m cp]
  x5 : Blk W (w.heap.size + 1) 37 #[.int .i64 k, .int .u64 a, .int .u64 b, .int .u64 c, .int .u64 d, .string t, .slice KA kn kcp]
section
variable {A KA : Option Addr} {m cp kn kcp : Nat} {k a b c d : Int} {t : ByteArray} {w W W' : World}
theorem Box2.step (h : Box2 A KA m cp kn kcp k a b c d t w W) {B : Nat} (hb : Below B W W') (hB : W.heap.size ≤ B) : Box2 A KA m cp kn kcp k a b c d t w W' :=
  have hb' := hb.mono hB
  ⟨h.bel.trans (hb'.mono h.bel.size), h.x3.below hb' h.x3.lt, h.x5.below hb' h.x5.lt⟩
theorem Box2.alloc (h : Box2 A KA m cp kn kcp k a b c d t w W) (o : Obj) : Box2 A KA m cp kn kcp k a b c d t w (W.alloc o) := h.step ((Below.refl _ _).alloc (Nat.le_refl _) o) (Nat.le_refl _)
theorem Box2.drew (h : Box2 A KA m cp kn kcp k a b c d t w W) : Box2 A KA m cp kn kcp k a b c d t w W.drew := ⟨h.bel.drew, h.x3, h.x5⟩
end

set_option maxRecDepth 100000 in
set_option maxHeartbeats 8000000 in
theorem loops_any {g : List Rl} {fs : List Fa} {A FA : Option Addr} {cp fcp : Nat} {row : Nat → List Value} (hlen : fs.length = g.length) (e : Ex) : ∀ (cs : List Value) (w : World), GrIs w w.heap.size g A cp row → Reads w w.heap.size 3 FA fs.length (facs fs) →
    ExIs w w.heap.size e cs → Rt g e → Calls Try.prog 57 #[.agg #[.slice A g.length cp], .slice FA fs.length fcp, .agg cs.toArray] w fun e' w' => e' = .returned (.bool (loopsE g fs e)) ∧ Below w.heap.size w w' := by
  refine Ex.ind (P := fun e => ∀ (cs : List Value) (w : World), GrIs w w.heap.size g A cp row → Reads w w.heap.size 3 FA fs.length (facs fs) →
    ExIs w w.heap.size e cs → Rt g e → Calls Try.prog 57 #[.agg #[.slice A g.length cp], .slice FA fs.length fcp, .agg cs.toArray] w fun e' w' => e' = .returned (.bool (loopsE g fs e)) ∧ Below w.heap.size w w') ?_ e
  intro k a b c d t ks ih cs w hG hF hE hR
  cases hR with
  | mk _ _ _ _ _ _ _ hfit hname hkids =>
  obtain ⟨ht, KA, kcp, rfl, hkc, hkm, _⟩ := hE.shape
  unfold exCells
  have hof := fun (j : Nat) (k' a' b' c' d' : Int) (t' : ByteArray) (ks' : List Ex) (A' : Option Addr) (cp' : Nat) (W : World) (hW : Below w.heap.size w W) (hj : ks[j]? = some (.mk k' a' b' c' d' t' ks'))
      (hE' : ExIs W w.heap.size (.mk k' a' b' c' d' t' ks') (exCells k' a' b' c' d' t' A' ks'.length cp')) =>
    of_any (fcp := fcp) hlen _ _ W ((hG.on hW).more hW.size) ((hF.below hW).more hW.size) (hE'.keep hW.size fun _ _ => rfl) (hkids _ (List.mem_of_getElem? hj))
  have hlo := fun (j : Nat) (k' a' b' c' d' : Int) (t' : ByteArray) (ks' : List Ex) (A' : Option Addr) (cp' : Nat) (W : World) (hW : Below w.heap.size w W) (hj : ks[j]? = some (.mk k' a' b' c' d' t' ks'))
      (hE' : ExIs W w.heap.size (.mk k' a' b' c' d' t' ks') (exCells k' a' b' c' d' t' A' ks'.length cp')) =>
    ih _ (List.mem_of_getElem? hj) _ W ((hG.on hW).more hW.size) ((hF.below hW).more hW.size) (hE'.keep hW.size fun _ _ => rfl) (hkids _ (List.mem_of_getElem? hj))
  unfold exCells at hof hlo
  have HOF := Lib.hid hof
  have HLO := Lib.hid hlo
  have HE := Lib.hid hE
  have HLEN := Lib.hid hlen
  have hbox : Box2 A KA g.length cp ks.length kcp k a b c d t w ((w.alloc (.cells #[.slice A g.length cp] 24)).alloc (.cells #[.int .i64 k, .int .u64 a, .int .u64 b, .int .u64 c, .int .u64 d, .string t, .slice KA ks.length kcp] 37)) := ⟨(by repeat (first | exact Below.refl _ _ | assumption | refine Below.drew ?_ | refine below_drewN ?_ _ | refine Below.alloc ?_ (by first | omega | (simp; omega) | simp) _ | refine Below.setCell ?_ (by first | omega | (simp; omega) | simp) _)), (blk_at rfl).alloc _, blk_at (by simp)⟩
  have HX : Hid (loopsE g fs (.mk k a b c d t ks) = (((k == 7 || k == 8) && (kid0 (ofEs g fs ks)).e) || loopsEs g fs ks)) := by show _ = _; rw [loopsE]
  have hfc := fit_cases hfit
  have h18 : (k = 7 ∨ k = 8) → 0 < ks.length := by omega
  have h8 : ks.length ≤ 8 := by omega
  clear hof hlo ih hG hF hE hname hkids hfit hlen hfc
  have hm8 : ks.length ≤ 9223372036854775807 := by omega
  have H8 := Lib.hid h8
  clear h8
  by_cases h78 : k = 7 ∨ k = 8
  · obtain ⟨ad, k', a', b', c', d', t', ks', A', cp', rfl, hab, hej, hE', hS⟩ := HE.out.kid (h18 h78)
    have hkk : kid0 (ofEs g fs ks) = ofE g fs (.mk k' a' b' c' d' t' ks') := of_parts (by rw [ofEs_at, hej]; rfl)
    have hcall := fun W (hW : Below w.heap.size w W) => HOF.out 0 k' a' b' c' d' t' ks' A' cp' W hW hej (hE'.on hW)
    rw [Nat.zero_mul] at hS
    have hS1 : Seven w ad k' a' b' c' d' t' A' ks'.length cp' := hS
    have hsv := fun W (hW : Below w.heap.size w W) => hS1.keep (w' := W) fun q hq => hW.cell (by rw [hq]; exact hab)
    rw [hkk] at HX
    generalize ofE g fs (.mk k' a' b' c' d' t' ks') = x at hcall HX
    have HC := Lib.hid hcall
    have HS := Lib.hid hsv
    have hkl : 0 < ks.length := h18 h78
    have hHX : loopsE g fs (.mk k a b c d t ks) = (x.e || loopsEs g fs ks) := by
      rw [HX.out]
      rcases h78 with rfl | rfl <;> simp
    have HX2 := Lib.hid hHX
    clear hej hE' hS hS1 hcall hsv hkk h18 HOF HX hHX
    have hfe := run_empty x.e x.a x.f
    go_enter Try.func57, Try.ntmps57
    go_wp2_with fail
    refine wp_region_q (Box2 (A := A) (some ad) g.length cp ks.length kcp k a b c d t w) (by kernel_rfl) (by kernel_rfl) hbox.drew ?_
    have h2 : (k == 7) = true ∨ ((k == 7) = false ∧ (k == 8) = true) := by
      rcases h78 with rfl | rfl
      · exact .inl rfl
      · exact .inr ⟨rfl, rfl⟩
    clear h78
    rcases h2 with hz1 | ⟨hz1, hz2⟩
    all_goals
      repeat
        (first | ((with_reducible apply QW.free rfl); · (intro W hW; have q1 := hW.x3.cell 0; have q2 := hW.x5.cell 0; have q3 := hW.x5.cell 6; obtain ⟨s0, s1, s2, s3, s4, s5, s6⟩ := HS.out _ hW.bel; go_simp; first | rfl | (go_at_call 93; refine (HC.out _ hW.bel).mono ?_; exact fun e w' h => ⟨h.1, hW.step h.2 (Nat.le_refl _)⟩))) | ((with_reducible apply QW.skip rfl); · (first | exact ⟨_, _, rfl, rfl, .inl rfl⟩ | exact ⟨_, _, rfl, rfl, .inr rfl⟩)) | ((with_reducible apply QW.take rfl); (· exact ⟨_, rfl, rfl⟩); (· (intro W hW; have q1 := hW.x3.cell 0; have q2 := hW.x5.cell 0; have q3 := hW.x5.cell 6; obtain ⟨s0, s1, s2, s3, s4, s5, s6⟩ := HS.out _ hW.bel; go_simp; first | rfl | (go_at_call 93; refine (HC.out _ hW.bel).mono ?_; exact fun e w' h => ⟨h.1, hW.step h.2 (Nat.le_refl _)⟩))))); (try simp only [Act.put, List.setIfInBounds_toArray, List.set_cons_zero, List.set_cons_succ])
      refine QW.nil ?_
      intro w1 hw1
    all_goals
      have hbw := hw1.bel
      have qq : w1.cell? ⟨w.heap.size + 1, 6, none⟩ = some (.slice (some ad) ks.length kcp) := hw1.x5.cell 6
      cases hxe : x.e
      · have HXX : Hid (loopsEs g fs (ks.drop 0) = loopsE g fs (.mk k a b c d t ks)) := by show _ = _; rw [HX2.out, hxe, Bool.false_or, List.drop_zero]
        clear HX2 hxe hfe HC HS
        go_wp2
        go_loopw [8, 30] (fun _ i wr => ∃ j : Nat, j ≤ ks.length ∧ i = .int .i64 j ∧ Hid (loopsEs g fs (ks.drop j) = loopsE g fs (.mk k a b c d t ks)) ∧ Box2 A (some ad) g.length cp ks.length kcp k a b c d t w wr) (fun _ i _ => ks.length - (intOf i).toNat)
        case atStart => exact ⟨0, by omega, rfl, HXX, hw1⟩
        case round =>
          clear hw1 HXX hbox
          obtain ⟨j, hj, rfl, HR, hwr⟩ := hrel
          have hbel := hwr.bel
          have hz := hbel.size
          have q0 : wr.cell? ⟨w.heap.size, 0, none⟩ = some (.slice A g.length cp) := hwr.x3.cell 0
          have hl3 := hwr.x3.lt
          have hl5 := hwr.x5.lt
          by_cases hjk : j < ks.length
          · obtain ⟨ad2, k', a', b', c', d', t', ks', A', cp', hA2, hab, hej, hE', ⟨e0, e1, e2, e3, e4, e5, e6⟩⟩ := (HE.out.on hbel).kid hjk
            injection hA2 with hA2
            subst hA2
            have hcall := fun W (hW : Below w.heap.size wr W) => HLO.out j k' a' b' c' d' t' ks' A' cp' W (hbel.trans hW) hej (hE'.on hW)
            have HC := Lib.hid hcall
            have HD := Lib.hid (drop_of hej)
            have HRS : Hid (loopsEs g fs (ks.drop j) = (loopsE g fs (.mk k' a' b' c' d' t' ks') || loopsEs g fs (ks.drop (j + 1)))) := by show _ = _; rw [HD.out, loopsEs]
            generalize loopsE g fs (.mk k' a' b' c' d' t' ks') = z at HC HRS
            clear hcall hej hE'
            go_wp2_with fail
            refine (HC.out _ (by repeat (first | exact Below.refl _ _ | assumption | refine Below.drew ?_ | refine below_drewN ?_ _ | refine Below.alloc ?_ (by first | omega | (simp; omega) | simp) _ | refine Below.setCell ?_ (by first | omega | (simp; omega) | simp) _))).mono ?_
            rintro e w2 ⟨rfl, hb2⟩
            have hw2 := (hwr.alloc _).step hb2 (Nat.le_refl _)
            have hbel2 := hw2.bel
            clear hb2 hwr
            cases z
            · have HN : Hid (loopsEs g fs (ks.drop (j + 1)) = loopsE g fs (.mk k a b c d t ks)) := by show _ = _; rw [← HR.out, HRS.out, Bool.false_or]
              clear HRS
              go_wp2
              go_roundw
              case rel => exact ⟨j + 1, by omega, by go_num, HN, hw2⟩
              case measure => simp [intOf]; omega
            · have HN : Hid (loopsE g fs (.mk k a b c d t ks) = true) := by show _ = _; rw [← HR.out, HRS.out, Bool.true_or]
              clear HRS
              go_wp2
              go_ret
              exact ⟨ret_bool HN.out.symm, hbel2⟩
          · obtain rfl : j = ks.length := by omega
            have HN : Hid (loopsE g fs (.mk k a b c d t ks) = false) := by show _ = _; rw [← HR.out, List.drop_length, loopsEs]
            go_wp2
            go_ret
            exact ⟨ret_bool HN.out.symm, hbel⟩
      · have HN := Lib.hid (HX2.out.trans (by rw [hxe, Bool.true_or]))
        clear hxe HX2 hfe
        go_wp2
        go_ret
        exact ⟨ret_bool HN.out.symm, hbw⟩
  · have hz1 : (k == 7) = false := by rw [beq_eq_false_iff_ne]; omega
    have hz2 : (k == 8) = false := by rw [beq_eq_false_iff_ne]; omega
    have HXX : Hid (loopsEs g fs (ks.drop 0) = loopsE g fs (.mk k a b c d t ks)) := by show _ = _; rw [HX.out, hz1, hz2]; simp
    clear h78 h18
    go_enter Try.func57, Try.ntmps57
    go_wp2_with fail
    refine wp_region_q (Box2 A KA g.length cp ks.length kcp k a b c d t w) (by kernel_rfl) (by kernel_rfl) hbox.drew ?_
    repeat
      (first | ((with_reducible apply QW.free rfl); · (intro W hW; have q1 := hW.x3.cell 0; have q2 := hW.x5.cell 0; have q3 := hW.x5.cell 6; go_simp; first | rfl)) | ((with_reducible apply QW.skip rfl); · (first | exact ⟨_, _, rfl, rfl, .inl rfl⟩ | exact ⟨_, _, rfl, rfl, .inr rfl⟩)) | ((with_reducible apply QW.take rfl); (· exact ⟨_, rfl, rfl⟩); (· (intro W hW; have q1 := hW.x3.cell 0; have q2 := hW.x5.cell 0; have q3 := hW.x5.cell 6; go_simp; first | rfl)))); (try simp only [Act.put, List.setIfInBounds_toArray, List.set_cons_zero, List.set_cons_succ])
    refine QW.nil ?_
    intro w1 hw1
    have qq : w1.cell? ⟨w.heap.size + 1, 6, none⟩ = some (.slice KA ks.length kcp) := hw1.x5.cell 6
    go_wp2
    go_loopw [8, 30] (fun _ i wr => ∃ j : Nat, j ≤ ks.length ∧ i = .int .i64 j ∧ Hid (loopsEs g fs (ks.drop j) = loopsE g fs (.mk k a b c d t ks)) ∧ Box2 A KA g.length cp ks.length kcp k a b c d t w wr) (fun _ i _ => ks.length - (intOf i).toNat)
    case atStart => exact ⟨0, by omega, rfl, HXX, hw1⟩
    case round =>
      clear hw1 HXX hbox HX
      obtain ⟨j, hj, rfl, HR, hwr⟩ := hrel
      have hbel := hwr.bel
      have hz := hbel.size
      have q0 : wr.cell? ⟨w.heap.size, 0, none⟩ = some (.slice A g.length cp) := hwr.x3.cell 0
      have hl3 := hwr.x3.lt
      have hl5 := hwr.x5.lt
      by_cases hjk : j < ks.length
      · obtain ⟨ad, k', a', b', c', d', t', ks', A', cp', rfl, hab, hej, hE', ⟨e0, e1, e2, e3, e4, e5, e6⟩⟩ := (HE.out.on hbel).kid hjk
        have hcall := fun W (hW : Below w.heap.size wr W) => HLO.out j k' a' b' c' d' t' ks' A' cp' W (hbel.trans hW) hej (hE'.on hW)
        have HC := Lib.hid hcall
        have HD := Lib.hid (drop_of hej)
        have HRS : Hid (loopsEs g fs (ks.drop j) = (loopsE g fs (.mk k' a' b' c' d' t' ks') || loopsEs g fs (ks.drop (j + 1)))) := by show _ = _; rw [HD.out, loopsEs]
        generalize loopsE g fs (.mk k' a' b' c' d' t' ks') = z at HC HRS
        clear hcall hej hE'
        go_wp2_with fail
        refine (HC.out _ (by repeat (first | exact Below.refl _ _ | assumption | refine Below.drew ?_ | refine below_drewN ?_ _ | refine Below.alloc ?_ (by first | omega | (simp; omega) | simp) _ | refine Below.setCell ?_ (by first | omega | (simp; omega) | simp) _))).mono ?_
        rintro e w2 ⟨rfl, hb2⟩
        have hw2 := (hwr.alloc _).step hb2 (Nat.le_refl _)
        have hbel2 := hw2.bel
        clear hb2 hwr
        cases z
        · have HN : Hid (loopsEs g fs (ks.drop (j + 1)) = loopsE g fs (.mk k a b c d t ks)) := by show _ = _; rw [← HR.out, HRS.out, Bool.false_or]
          clear HRS
          go_wp2
          go_roundw
          case rel => exact ⟨j + 1, by omega, by go_num, HN, hw2⟩
          case measure => simp [intOf]; omega
        · have HN : Hid (loopsE g fs (.mk k a b c d t ks) = true) := by show _ = _; rw [← HR.out, HRS.out, Bool.true_or]
          clear HRS
          go_wp2
          go_ret
          exact ⟨ret_bool HN.out.symm, hbel2⟩
      · obtain rfl : j = ks.length := by omega
        have HN : Hid (loopsE g fs (.mk k a b c d t ks) = false) := by show _ = _; rw [← HR.out, List.drop_length, loopsEs]
        go_wp2
        go_ret
        exact ⟨ret_bool HN.out.symm, hbel⟩
end Go.Proofs.Ytkmcnekjimobhaa
