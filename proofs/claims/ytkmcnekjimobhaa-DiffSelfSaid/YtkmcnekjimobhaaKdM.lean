/- Expressions that are made anew: what of memory they rest on; kids in a row while they are appended. -/
import Derived.Test.YtkmcnekjimobhaaWhA
import Derived.Test.YtkmcnekjimobhaaQSpl
namespace Go.Proofs.Ytkmcnekjimobhaa
open Go.RowKit Go.Maps

/-- an expression at these cells that rests on blocks of S alone -/
def ExF (S : Nat → Prop) (hi : Nat) (W : World) (e : Ex) (cs : List Value) : Prop := ∀ X : World, (∀ p : Addr, S p.block → X.cell? p = W.cell? p) → ExIs X hi e cs
section
variable {S S' : Nat → Prop} {hi hi' : Nat} {W W' : World} {e : Ex} {cs : List Value}
theorem ExF.is (h : ExF S hi W e cs) : ExIs W hi e cs := h W fun _ _ => rfl
theorem ExF.keep (h : ExF S hi W e cs) (hk : ∀ p : Addr, S p.block → W'.cell? p = W.cell? p) : ExF S hi W' e cs := fun X hX => h X fun p hp => (hX p hp).trans (hk p hp)
theorem ExF.mono (h : ExF S hi W e cs) (hs : ∀ b, S b → S' b) (hh : hi ≤ hi') : ExF S' hi' W e cs := fun X hX => (h X fun p hp => hX p (hs _ hp)).keep hh fun _ _ => rfl
theorem ExF.set (h : ExF S hi W e cs) {k : Nat} (hk : ¬ S k) (i : Nat) (u : Value) : ExF S hi (W.setCell ⟨k, i, none⟩ u) e cs := h.keep fun p hp => World.cell?_setCell_other W _ p u (by rintro rfl; exact hk hp)
theorem ExF.set7 (h : ExF S hi W e cs) {k : Nat} (hk : ¬ S k) (u0 u1 u2 u3 u4 u5 u6 : Value) : ExF S hi (((((((W.setCell ⟨k, 0, none⟩ u0).setCell ⟨k, 1, none⟩ u1).setCell ⟨k, 2, none⟩ u2).setCell ⟨k, 3, none⟩ u3).setCell ⟨k, 4, none⟩ u4).setCell ⟨k, 5, none⟩ u5).setCell ⟨k, 6, none⟩ u6) e cs := ((((((h.set hk 0 u0).set hk 1 u1).set hk 2 u2).set hk 3 u3).set hk 4 u4).set hk 5 u5).set hk 6 u6
theorem below_set7 {B k : Nat} {w W : World} (h : Below B w W) (hk : B ≤ k) (u0 u1 u2 u3 u4 u5 u6 : Value) : Below B w (((((((W.setCell ⟨k, 0, none⟩ u0).setCell ⟨k, 1, none⟩ u1).setCell ⟨k, 2, none⟩ u2).setCell ⟨k, 3, none⟩ u3).setCell ⟨k, 4, none⟩ u4).setCell ⟨k, 5, none⟩ u5).setCell ⟨k, 6, none⟩ u6) := ((((((h.setCell hk _).setCell hk _).setCell hk _).setCell hk _).setCell hk _).setCell hk _).setCell hk _
theorem size_set7 {k : Nat} {W : World} (u0 u1 u2 u3 u4 u5 u6 : Value) : (((((((W.setCell ⟨k, 0, none⟩ u0).setCell ⟨k, 1, none⟩ u1).setCell ⟨k, 2, none⟩ u2).setCell ⟨k, 3, none⟩ u3).setCell ⟨k, 4, none⟩ u4).setCell ⟨k, 5, none⟩ u5).setCell ⟨k, 6, none⟩ u6).heap.size = W.heap.size := by simp [World.setCell]
/-- what was made lies there still when the result was stored -/
theorem ExF.res7 {lo B k : Nat} (h : ExF (fun b => lo ≤ b ∧ b < W.heap.size) W.heap.size W e cs) (hk : k < lo) (hB : B ≤ lo) (u0 u1 u2 u3 u4 u5 u6 : Value) : ExF (fun b => B ≤ b ∧ b < (((((((W.setCell ⟨k, 0, none⟩ u0).setCell ⟨k, 1, none⟩ u1).setCell ⟨k, 2, none⟩ u2).setCell ⟨k, 3, none⟩ u3).setCell ⟨k, 4, none⟩ u4).setCell ⟨k, 5, none⟩ u5).setCell ⟨k, 6, none⟩ u6).heap.size)
    (((((((W.setCell ⟨k, 0, none⟩ u0).setCell ⟨k, 1, none⟩ u1).setCell ⟨k, 2, none⟩ u2).setCell ⟨k, 3, none⟩ u3).setCell ⟨k, 4, none⟩ u4).setCell ⟨k, 5, none⟩ u5).setCell ⟨k, 6, none⟩ u6).heap.size (((((((W.setCell ⟨k, 0, none⟩ u0).setCell ⟨k, 1, none⟩ u1).setCell ⟨k, 2, none⟩ u2).setCell ⟨k, 3, none⟩ u3).setCell ⟨k, 4, none⟩ u4).setCell ⟨k, 5, none⟩ u5).setCell ⟨k, 6, none⟩ u6) e cs := by
  rw [size_set7]
  exact (h.set7 (k := k) (fun hb => by omega) u0 u1 u2 u3 u4 u5 u6).mono (fun b hb => ⟨Nat.le_trans hB hb.1, hb.2⟩) (Nat.le_refl _)
theorem ExF.leaf (S : Nat → Prop) (hi : Nat) (W : World) (k a b c d : Int) (t : ByteArray) (ht : t.size ≤ maxLen) : ExF S hi W (.mk k a b c d t []) (exCells k a b c d t none 0 0) := fun X _ => ExIs.leaf X hi k a b c d t ht
theorem ExF.node {k a b c d : Int} {t : ByteArray} {ks : List Ex} {A : Option Addr} {cp : Nat} {rows : Nat → List Value} (ht : t.size ≤ maxLen) (hl : ks.length ≤ cp) (hm : cp ≤ maxLen) (hn : A = none → cp = 0) (hb : 0 < ks.length → ∃ ad : Addr, A = some ad ∧ ad.block < hi ∧ S ad.block)
    (hk : ∀ i e, ks[i]? = some e → ExF S hi W e (rows i)) (hc : ∀ i e ad, ks[i]? = some e → A = some ad → ∀ j u, (rows i)[j]? = some u → W.cell? ((ad.add (i * 7)).add j) = some u) : ExF S hi W (.mk k a b c d t ks) (exCells k a b c d t A ks.length cp) :=
  fun X hX => .mk k a b c d t ks A cp rows ht hl hm hn (fun h0 => by obtain ⟨ad, h1, h2, _⟩ := hb h0; exact ⟨ad, h1, h2⟩) (fun i e he => hk i e he X hX) fun i e ad he hA j u hu => by
    obtain ⟨ad', h1, _, h3⟩ := hb (by have := getElem?_lt he; omega)
    rw [hA] at h1
    injection h1 with h1
    subst h1
    rw [hX _ (by rw [add_block, add_block]; exact h3)]
    exact hc i e ad he hA j u hu
theorem ExF.len7 (h : ExF S hi W e cs) : cs.length = 7 := ex_len h.is
end
/-- what a call leaves that makes an expression anew -/
def MadeQ (f : Ex) (w : World) (r : Ending) (w' : World) : Prop := (∃ cs, r = .returned (.agg cs.toArray) ∧ ExF (fun b => w.heap.size ≤ b ∧ b < w'.heap.size) w'.heap.size w' f cs) ∧ Below w.heap.size w w'

/-- the cells of so many kids -/
def kdF (rows : Nat → List Value) : Nat → List Value
  | 0 => []
  | j + 1 => kdF rows j ++ rows j
theorem kdF_len {rows : Nat → List Value} : ∀ {j : Nat}, (∀ i, i < j → (rows i).length = 7) → (kdF rows j).length = j * 7
  | 0, _ => rfl
  | j + 1, h => by rw [kdF, List.length_append, kdF_len (fun i hi => h i (by omega)), h j (by omega)]; omega
theorem kdF_get {rows : Nat → List Value} : ∀ {j : Nat}, (∀ i, i < j → (rows i).length = 7) → ∀ {i u : Nat} {v : Value}, i < j → (rows i)[u]? = some v → (kdF rows j)[i * 7 + u]? = some v
  | 0, _, i, _, _, hi, _ => absurd hi (by omega)
  | j + 1, h, i, u, v, hi, hu => by
    have hl := kdF_len (rows := rows) (j := j) (fun i hi => h i (by omega))
    have h7 := h i hi
    have hu7 := getElem?_lt hu
    rw [kdF]
    by_cases hij : i = j
    · subst hij
      rw [List.getElem?_append_right (by omega), hl, Nat.add_sub_cancel_left]
      exact hu
    · have := kdF_get (j := j) (fun i hi => h i (by omega)) (i := i) (by omega) hu
      rw [List.getElem?_append_left (getElem?_lt this)]
      exact this
theorem kdF_same {rows rows' : Nat → List Value} : ∀ {j : Nat}, (∀ i, i < j → rows i = rows' i) → kdF rows j = kdF rows' j
  | 0, _ => rfl
  | j + 1, h => by rw [kdF, kdF, kdF_same (fun i hi => h i (by omega)), h j (by omega)]

/-- kids that were made anew, in a row of one's own -/
structure Kids (base : Nat) (W : World) (es : List Ex) (V : Option Addr) (c : Nat) (rows : Nat → List Value) : Prop where
  own : W.ownsRow base 37 7 (.slice V es.length c) es.length (kdF rows es.length)
  kid : ∀ i e, es[i]? = some e → ExF (fun b => base ≤ b ∧ b < W.heap.size ∧ some b ≠ (Value.slice V es.length c).ownBlock) W.heap.size W e (rows i)
section
variable {base : Nat} {W W' : World} {es : List Ex} {V : Option Addr} {c : Nat} {rows : Nat → List Value}
theorem Kids.nil (base : Nat) (W : World) : Kids base W [] none 0 (fun _ => []) := ⟨World.ownsRow_nil _ _ _ _, fun i e h => by simp at h⟩
theorem Kids.below (h : Kids base W es V c rows) (hb : Below W.heap.size W W') : Kids base W' es V c rows :=
  ⟨own_below h.own hb, fun i e he => ((h.kid i e he).keep (W' := W') fun _ hp => hb.cell hp.2.1).mono (fun _ hb' => ⟨hb'.1, Nat.lt_of_lt_of_le hb'.2.1 hb.size, hb'.2.2⟩) hb.size⟩
theorem Kids.far (h : Kids base W es V c rows) {k : Nat} (hk : k < base) (i : Nat) (u : Value) : Kids base (W.setCell ⟨k, i, none⟩ u) es V c rows :=
  have hs : (W.setCell ⟨k, i, none⟩ u).heap.size = W.heap.size := by simp [World.setCell]
  ⟨own_far h.own ⟨rfl, rfl, rfl, by simp [World.setCell], fun q hq hne => Below.heap_setCell W ⟨k, i, none⟩ u q (by rintro rfl; exact hne rfl)⟩ hk, fun j e he => by
    rw [hs]
    exact (h.kid j e he).keep fun p hp => World.cell?_setCell_other W _ p u (by rintro rfl; have := hp.1; simp at this; omega)⟩
theorem Kids.len7 (h : Kids base W es V c rows) : ∀ i, i < es.length → (rows i).length = 7 := fun i hi => (h.kid i _ (List.getElem?_eq_getElem hi)).len7
/-- one kid more -/
theorem Kids.push {V' : Option Addr} {c' lo : Nat} {e : Ex} {r : List Value} (h : Kids base W es V c rows) (hlo : base ≤ lo) (hold : ∀ q, (Value.slice V es.length c).ownBlock = some q → q < lo) (hE : ExF (fun b => lo ≤ b ∧ b < W.heap.size) W.heap.size W e r)
    (hown : W'.ownsRow base 37 7 (.slice V' (es.length + 1) c') (es.length + 1) (kdF rows es.length ++ r)) (hg : W.grownBy W' (Value.slice V es.length c).ownBlock)
    (hat : (Value.slice V' (es.length + 1) c').ownBlock = (Value.slice V es.length c).ownBlock ∨ (Value.slice V' (es.length + 1) c').ownBlock = some W.heap.size) :
    Kids base W' (es ++ [e]) V' c' (fun i => if i = es.length then r else rows i) := by
  have hl : (es ++ [e]).length = es.length + 1 := by simp
  have hne : ∀ b, b < W.heap.size → some b ≠ (Value.slice V es.length c).ownBlock → some b ≠ (Value.slice V' (es.length + 1) c').ownBlock := fun b hb hne => by
    rcases hat with h1 | h1
    · rw [h1]; exact hne
    · rw [h1]; intro e; injection e with e; omega
  have hkeep : ∀ p : Addr, p.block < W.heap.size → some p.block ≠ (Value.slice V es.length c).ownBlock → W'.cell? p = W.cell? p := fun p h1 h2 => World.cell?_of_block (hg.block p.block h1 h2)
  constructor
  · rw [hl, kdF, if_pos rfl, kdF_same (rows' := rows) fun i hi => if_neg (by omega)]
    exact hown
  · intro i x hx
    rw [hl]
    by_cases hi : i < es.length
    · rw [List.getElem?_append_left hi] at hx
      rw [if_neg (by omega)]
      exact ((h.kid i x hx).keep (W' := W') fun p hp => hkeep p hp.2.1 hp.2.2).mono (fun b hb => ⟨hb.1, Nat.lt_of_lt_of_le hb.2.1 hg.size, hne b hb.2.1 hb.2.2⟩) hg.size
    · have hi' : i = es.length := by have := getElem?_lt hx; simp at this; omega
      subst hi'
      simp at hx
      subst hx
      rw [if_pos rfl]
      have hx : ∀ b, lo ≤ b → some b ≠ (Value.slice V es.length c).ownBlock := fun b hb e => by have := hold b e.symm; omega
      exact (hE.keep (W' := W') fun p hp => hkeep p hp.2 (hx _ hp.1)).mono (fun b hb => ⟨Nat.le_trans hlo hb.1, Nat.lt_of_lt_of_le hb.2 hg.size, hne b hb.2 (hx b hb.1)⟩) hg.size
theorem Kids.old (h : Kids base W es V c rows) : ∀ q, (Value.slice V es.length c).ownBlock = some q → q < W.heap.size := fun q hq => (h.own.lt q hq).2
/-- where the row lies -/
theorem Kids.shape (h : Kids base W es V c rows) : es.length ≤ c ∧ c ≤ maxLen ∧ (V = none → c = 0) ∧ (0 < es.length → ∃ ad : Addr, V = some ad ∧ ad.block < W.heap.size ∧ base ≤ ad.block ∧ ad.block < W.heap.size) ∧
    ∀ (i : Nat) (e : Ex) (ad : Addr), es[i]? = some e → V = some ad → ∀ j u, (rows i)[j]? = some u → W.cell? ((ad.add (i * 7)).add j) = some u := by
  have ho := h.own
  have hlt := ho.lt
  have h7 := h.len7
  rcases ho.2 with ⟨h1, h2⟩ | ⟨g1, cap, cur, hv, h3, h4, h5, h6, _⟩
  · injection h1 with e1 e2 e3
    subst e1 e3
    exact ⟨by omega, by unfold maxLen; omega, fun _ => rfl, fun h => by omega, fun _ _ _ _ h => by cases h⟩
  · injection hv with e1 e2 e3
    subst e1 e3
    refine ⟨h5, h6, fun h => (by cases h), fun _ => ⟨_, rfl, (hlt g1 rfl).2, (hlt g1 rfl).1, (hlt g1 rfl).2⟩, fun i e ad he hA j u hu => ?_⟩
    injection hA with hA
    subst hA
    rw [add_add']
    exact ho.cells rfl _ u (kdF_get h7 (getElem?_lt he) hu)
/-- the node of these kids -/
theorem Kids.node (h : Kids base W es V c rows) (k a b c' d : Int) (t : ByteArray) (ht : t.size ≤ maxLen) : ExF (fun b => base ≤ b ∧ b < W.heap.size) W.heap.size W (.mk k a b c' d t es) (exCells k a b c' d t V es.length c) := by
  obtain ⟨h1, h2, h3, h4, h5⟩ := h.shape
  exact ExF.node ht h1 h2 h3 h4 (fun i e he => (h.kid i e he).mono (fun b hb => ⟨hb.1, hb.2.1⟩) (Nat.le_refl _)) h5
end
/-- a node over a block of its one kid's cells, of its two kids' -/
theorem ExF.one {S : Nat → Prop} {hi b : Nat} {W : World} {T : TypeId} {e : Ex} {r : List Value} {cs : Array Value} (h : ExF S hi W e r) (hb : Blk W b T cs) (hcs : cs.toList = r) (hS : S b) (hlt : b < hi) (k : Int) : ExF S hi W (ofN k [e]) (exCells k 0 0 0 0 ⟨#[]⟩ (some ⟨b, 0, none⟩) 1 1) :=
  ExF.node (ks := [e]) (rows := fun _ => r) (by decide) (Nat.le_refl _) (by simp [maxLen]) (fun h => by cases h) (fun _ => ⟨_, rfl, hlt, hS⟩) (fun i x hx => by
    match i, hx with
    | 0, hx => simp at hx; subst hx; exact h) fun i x ad hx hA j u hu => by
    match i, hx with
    | 0, hx =>
      injection hA with hA
      subst hA
      rw [Nat.zero_mul, add_at, cell_add, hb.cell, ← Array.getElem?_toList, hcs, Nat.zero_add]
      exact hu
theorem ExF.two {S : Nat → Prop} {hi b : Nat} {W : World} {T : TypeId} {e f : Ex} {r q : List Value} {cs : Array Value} (h : ExF S hi W e r) (h' : ExF S hi W f q) (hb : Blk W b T cs) (hcs : cs.toList = r ++ q) (hS : S b) (hlt : b < hi) (k : Int) : ExF S hi W (ofN k [e, f]) (exCells k 0 0 0 0 ⟨#[]⟩ (some ⟨b, 0, none⟩) 2 2) :=
  have h7 := h.len7
  ExF.node (ks := [e, f]) (rows := fun i => if i = 0 then r else q) (by decide) (Nat.le_refl _) (by simp [maxLen]) (fun h => by cases h) (fun _ => ⟨_, rfl, hlt, hS⟩) (fun i x hx => by
    match i, hx with
    | 0, hx => simp at hx; subst hx; exact h
    | 1, hx => simp at hx; subst hx; exact h') fun i x ad hx hA j u hu => by
    match i, hx with
    | 0, hx =>
      injection hA with hA
      subst hA
      rw [if_pos rfl] at hu
      rw [Nat.zero_mul, add_at, cell_add, hb.cell, ← Array.getElem?_toList, hcs, Nat.zero_add, List.getElem?_append_left (getElem?_lt hu)]
      exact hu
    | 1, hx =>
      injection hA with hA
      subst hA
      rw [if_neg (by decide)] at hu
      rw [add_at, cell_add, hb.cell, ← Array.getElem?_toList, hcs, List.getElem?_append_right (by omega), h7, Nat.one_mul, Nat.add_sub_cancel_left]
      exact hu
/-- append to a row of one's own, and where its block lies then -/
theorem stepT_append_at {P : Program} {o : Oper} {a : Act} {w : World} {K : Act → World → Prop}
    (s x : Operand) (t : TypeId) (hop : o.op = Op.call { callee := Callee.builtin Builtin.append, args := #[s, x], argTypes := #[t, t] })
    (base : Nat) (e : TypeId) (i : TypeInfo) (z : Value) (size bytes : Nat) (h1 : P.underlying t = some (.slice e)) (h2 : P.info? e = some i) (h3 : i.zero = some z) (h4 : i.size = size) (h5 : i.bytes = bytes) (h6 : z.cells.size = size) (h7 : 0 < size)
    (v : Value) (n : Nat) (xs : List Value) (hs : a.eval s = v) (hown : w.ownsRow base e size v n xs)
    (ad : Addr) (m c : Nat) (news : List Value) (hx : a.eval x = .slice (some ad) m c) (hn : news.length = m * size) (hc : ∀ j u, news[j]? = some u → w.cell? (ad.add j) = some u) (h1c : ∀ u ∈ news, u.oneCell' = true)
    (b1 : n + m ≤ maxLen) (b2 : (n + m) * bytes ≤ 140737488355328) (hb : base ≤ w.heap.size)
    (hK : ∀ v' w', w'.ownsRow base e size v' (n + m) (xs ++ news) → w.grownBy w' v.ownBlock → (v'.ownBlock = v.ownBlock ∨ v'.ownBlock = some w.heap.size) → K (a.put o.dst v') w') : stepT P o a w K := by
  obtain ⟨v', w', hrun, r1, r2, _, r3⟩ := run_append_own_at (P := P) w base t o.type e i z size bytes h1 h2 h3 h4 h5 h6 h7 v n xs hown ad m c news hn hc h1c b1 b2 hb
  unfold stepT
  simp [execOp, hop, resolve, invoke, builtin, hs, hx, hrun, Result.andThen]
  exact hK v' w' r1 r2 r3
theorem expr_info : (Try.prog.info? 37).map (fun i => (i.zero, i.size, i.bytes)) = some (some (.agg #[.int .i64 0, .int .u64 0, .int .u64 0, .int .u64 0, .int .u64 0, .string ⟨#[]⟩, .slice none 0 0]), 7, 80) := by kernel_rfl
/-- no node has more than eight kids -/
inductive K8 : Ex → Prop
  | mk (k a b c d : Int) (t : ByteArray) (ks : List Ex) : ks.length ≤ 8 → (∀ e ∈ ks, K8 e) → K8 (.mk k a b c d t ks)
/-- what a region reads where a kid is appended: the box of what is made, the kid's box -/
structure KdC (ob kb : Nat) (o k : Array Value) (W : World) : Prop where
  out : Blk W ob 37 o
  kid : Blk W kb 37 k
theorem KdC.below {ob kb : Nat} {o k : Array Value} {W W' : World} (h : KdC ob kb o k W) (hb : Below W.heap.size W W') : KdC ob kb o k W' := ⟨h.out.below hb h.out.lt, h.kid.below hb h.kid.lt⟩
theorem KdC.drew {ob kb : Nat} {o k : Array Value} {W : World} (h : KdC ob kb o k W) : KdC ob kb o k W.drew := ⟨h.out.drew, h.kid.drew⟩
theorem KdC.grown {ob kb : Nat} {o k : Array Value} {W W' : World} {r : Option Nat} (h : KdC ob kb o k W) (hg : W.grownBy W' r) (h1 : some ob ≠ r) (h2 : some kb ≠ r) : KdC ob kb o k W' := ⟨h.out.grown hg h1, h.kid.grown hg h2⟩
end Go.Proofs.Ytkmcnekjimobhaa
