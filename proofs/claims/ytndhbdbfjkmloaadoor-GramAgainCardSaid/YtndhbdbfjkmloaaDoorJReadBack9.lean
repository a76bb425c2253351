/- Expressions that are made anew: what of memory they rest on; kids in a row while they are appended. The reader in memory: its block, node, next, Go. -/
import Derived.Test.YtndhbdbfjkmloaaDoorJReadBack8
import Derived.Test.YtndhbdbfjkmloaaDoorJReadBack6
import Derived.Test.YtndhbdbfjkmloaaDoorJReadBack7
import Derived.Deep.DeepCutAuto
namespace Go.Proofs.YtndhbdbfjkmloaaDoor
open Go.RowKit Go.Maps

/-- an expression at these cells that rests on blocks of S alone -/
def ExF (S : Nat → Prop) (hi : Nat) (W : World) (e : Ex) (cs : List Value) : Prop := ∀ X : World, (∀ p : Addr, S p.block → X.cell? p = W.cell? p) → ExIs X hi e cs
section
variable {S S' : Nat → Prop} {hi hi' : Nat} {W W' : World} {e : Ex} {cs : List Value}
theorem ExF.is (h : ExF S hi W e cs) : ExIs W hi e cs := h W fun _ _ => rfl
theorem ExF.keep (h : ExF S hi W e cs) (hk : ∀ p : Addr, S p.block → W'.cell? p = W.cell? p) : ExF S hi W' e cs := fun X hX => h X fun p hp => (hX p hp).trans (hk p hp)
theorem ExF.mono (h : ExF S hi W e cs) (hs : ∀ b, S b → S' b) (hh : hi ≤ hi') : ExF S' hi' W e cs := fun X hX => (h X fun p hp => hX p (hs _ hp)).keep hh fun _ _ => rfl
theorem ExF.set (h : ExF S hi W e cs) {k : Nat} (hk : ¬ S k) (i : Nat) (u : Value) : ExF S hi (W.setCell ⟨k, i, none⟩ u) e cs := h.keep fun p hp => World.cell?_setCell_other W _ p u (by rintro rfl; exact hk hp)
theorem ExF.set7 (h : ExF S hi W e cs) {k : Nat} (hk : ¬ S k) (u0 u1 u2 u3 u4 u5 u6 : Value) : ExF S hi (((((((W.setCell ⟨k, 0, none⟩ u0).setCell ⟨k, 1, none⟩ u1).setCell ⟨k, 2, none⟩ u2).setCell ⟨k, 3, none⟩ u3).setCell ⟨k, 4, none⟩ u4).setCell ⟨k, 5, none⟩ u5).setCell ⟨k, 6, none⟩ u6) e cs := ((((((h.set hk 0 u0).set hk 1 u1).set hk 2 u2).set hk 3 u3).set hk 4 u4).set hk 5 u5).set hk 6 u6
theorem below_set7 {B k : Nat} {w W : World} (h : Below B w W) (hk : B ≤ k) (u0 u1 u2 u3 u4 u5 u6 : Value) : Below B w (((((((W.setCell ⟨k, 0, none⟩ u0).setCell ⟨k, 1, none⟩ u1).setCell ⟨k, 2, none⟩ u2).setCell ⟨k, 3, none⟩ u3).setCell ⟨k, 4, none⟩ u4).setCell ⟨k, 5, none⟩ u5).setCell ⟨k, 6, none⟩ u6) := ((((((h.setCell hk _).setCell hk _).setCell hk _).setCell hk _).setCell hk _).setCell hk _).setCell hk _
theorem size_set7 {k : Nat} {W : World} (u0 u1 u2 u3 u4 u5 u6 : Value) : (((((((W.setCell ⟨k, 0, none⟩ u0).setCell ⟨k, 1, none⟩ u1).setCell ⟨k, 2, none⟩ u2).setCell ⟨k, 3, none⟩ u3).setCell ⟨k, 4, none⟩ u4).setCell ⟨k, 5, none⟩ u5).setCell ⟨k, 6, none⟩ u6).heap.size = W.heap.size := by simp [World.setCell]
/-- what was made lies there still when the result was stored -/
theorem ExF.res7 {lo B k : Nat} (h : ExF (fun b => lo ≤ b ∧ b < W.heap.size) W.heap.size W e cs) (hk : k < lo) (hB : B ≤ lo) (u0 u1 u2 u3 u4 u5 u6 : Value) : ExF (fun b => B ≤ b ∧ b < (((((((W.setCell ⟨k, 0, none⟩ u0).setCell ⟨k, 1, none⟩ u1).setCell ⟨k, 2, none⟩ u2).setCell ⟨k, 3, none⟩ u3).setCell ⟨k, 4, none⟩ u4).setCell ⟨k, 5, none⟩ u5).setCell ⟨k, 6, none⟩ u6).heap.size)
    (((((((W.setCell ⟨k, 0, none⟩ u0).setCell ⟨k, 1, none⟩ u1).setCell ⟨k, 2, none⟩ u2).setCell ⟨k, 3, none⟩ u3).setCell ⟨k, 4, none⟩ u4).setCell ⟨k, 5, none⟩ u5).setCell ⟨k, 6, none⟩ u6).heap.size (((((((W.setCell ⟨k, 0, none⟩ u0).setCell ⟨k, 1, none⟩ u1).setCell ⟨k, 2, none⟩ u2).setCell ⟨k, 3, none⟩ u3).setCell ⟨k, 4, none⟩ u4).setCell ⟨k, 5, none⟩ u5).setCell ⟨k, 6, none⟩ u6) e cs := by
  rw [size_set7]
  exact (h.set7 (k := k) (fun hb => by omega) u0 u1 u2 u3 u4 u5 u6).mono (fun b hb => ⟨Nat.le_trans hB hb.1, hb.2⟩) (Nat.le_refl _)
theorem ExF.leaf (S : Nat → Prop) (hi : Nat) (W : World) (k a b c d : Int) (t : ByteArray) (ht : t.size ≤ maxLen) : ExF S hi W (.mk k a b c d t []) (exCells k a b c d t none 0 0) := fun X _ => ExIs.leaf X hi k a b c d t ht
theorem ExF.node {k a b c d : Int} {t : ByteArray} {ks : List Ex} {A : Option Addr} {cp : Nat} {rows : Nat → List Value} (ht : t.size ≤ maxLen) (hl : ks.length ≤ cp) (hm : cp ≤ maxLen) (hn : A = none → cp = 0) (hb : 0 < ks.length → ∃ ad : Addr, A = some ad ∧ ad.block < hi ∧ S ad.block)
    (hk : ∀ i e, ks[i]? = some e → ExF S hi W e (rows i)) (hc : ∀ i e ad, ks[i]? = some e → A = some ad → ∀ j u, (rows i)[j]? = some u → W.cell? ((ad.add (i * 7)).add j) = some u) : ExF S hi W (.mk k a b c d t ks) (exCells k a b c d t A ks.length cp) :=
  fun X hX => .mk k a b c d t ks A cp rows ht hl hm hn (fun h0 => by obtain ⟨ad, h1, h2, _⟩ := hb h0; exact ⟨ad, h1, h2⟩) (fun i e he => hk i e he X hX) fun i e ad he hA j u hu => by
    obtain ⟨ad', h1, _, h3⟩ := hb (by have := getElem?_lt he; omega)
    rw [hA] at h1
    injection h1 with h1
    subst h1
    rw [hX _ (by rw [add_block, add_block]; exact h3)]
    exact hc i e ad he hA j u hu
theorem ExF.len7 (h : ExF S hi W e cs) : cs.length = 7 := ex_len h.is
end
/-- what a call leaves that makes an expression anew -/
def MadeQ (f : Ex) (w : World) (r : Ending) (w' : World) : Prop := (∃ cs, r = .returned (.agg cs.toArray) ∧ ExF (fun b => w.heap.size ≤ b ∧ b < w'.heap.size) w'.heap.size w' f cs) ∧ Below w.heap.size w w'

/-- the cells of so many kids -/
def kdF (rows : Nat → List Value) : Nat → List Value
  | 0 => []
  | j + 1 => kdF rows j ++ rows j
theorem kdF_len {rows : Nat → List Value} : ∀ {j : Nat}, (∀ i, i < j → (rows i).length = 7) → (kdF rows j).length = j * 7
  | 0, _ => rfl
  | j + 1, h => by rw [kdF, List.length_append, kdF_len (fun i hi => h i (by omega)), h j (by omega)]; omega
theorem kdF_get {rows : Nat → List Value} : ∀ {j : Nat}, (∀ i, i < j → (rows i).length = 7) → ∀ {i u : Nat} {v : Value}, i < j → (rows i)[u]? = some v → (kdF rows j)[i * 7 + u]? = some v
  | 0, _, i, _, _, hi, _ => absurd hi (by omega)
  | j + 1, h, i, u, v, hi, hu => by
    have hl := kdF_len (rows := rows) (j := j) (fun i hi => h i (by omega))
    have h7 := h i hi
    have hu7 := getElem?_lt hu
    rw [kdF]
    by_cases hij : i = j
    · subst hij
      rw [List.getElem?_append_right (by omega), hl, Nat.add_sub_cancel_left]
      exact hu
    · have := kdF_get (j := j) (fun i hi => h i (by omega)) (i := i) (by omega) hu
      rw [List.getElem?_append_left (getElem?_lt this)]
      exact this
theorem kdF_same {rows rows' : Nat → List Value} : ∀ {j : Nat}, (∀ i, i < j → rows i = rows' i) → kdF rows j = kdF rows' j
  | 0, _ => rfl
  | j + 1, h => by rw [kdF, kdF, kdF_same (fun i hi => h i (by omega)), h j (by omega)]

/-- kids that were made anew, in a row of one's own -/
structure Kids (base : Nat) (W : World) (es : List Ex) (V : Option Addr) (c : Nat) (rows : Nat → List Value) : Prop where
  own : W.ownsRow base 27 7 (.slice V es.length c) es.length (kdF rows es.length)
  kid : ∀ i e, es[i]? = some e → ExF (fun b => base ≤ b ∧ b < W.heap.size ∧ some b ≠ (Value.slice V es.length c).ownBlock) W.heap.size W e (rows i)
section
variable {base : Nat} {W W' : World} {es : List Ex} {V : Option Addr} {c : Nat} {rows : Nat → List Value}
theorem Kids.nil (base : Nat) (W : World) : Kids base W [] none 0 (fun _ => []) := ⟨World.ownsRow_nil _ _ _ _, fun i e h => by simp at h⟩
theorem Kids.below (h : Kids base W es V c rows) (hb : Below W.heap.size W W') : Kids base W' es V c rows :=
  ⟨own_below h.own hb, fun i e he => ((h.kid i e he).keep (W' := W') fun _ hp => hb.cell hp.2.1).mono (fun _ hb' => ⟨hb'.1, Nat.lt_of_lt_of_le hb'.2.1 hb.size, hb'.2.2⟩) hb.size⟩
theorem Kids.far (h : Kids base W es V c rows) {k : Nat} (hk : k < base) (i : Nat) (u : Value) : Kids base (W.setCell ⟨k, i, none⟩ u) es V c rows :=
  have hs : (W.setCell ⟨k, i, none⟩ u).heap.size = W.heap.size := by simp [World.setCell]
  ⟨own_far h.own ⟨rfl, rfl, rfl, by simp [World.setCell], fun q hq hne => Below.heap_setCell W ⟨k, i, none⟩ u q (by rintro rfl; exact hne rfl)⟩ hk, fun j e he => by
    rw [hs]
    exact (h.kid j e he).keep fun p hp => World.cell?_setCell_other W _ p u (by rintro rfl; have := hp.1; simp at this; omega)⟩
theorem Kids.len7 (h : Kids base W es V c rows) : ∀ i, i < es.length → (rows i).length = 7 := fun i hi => (h.kid i _ (List.getElem?_eq_getElem hi)).len7
/-- one kid more -/
theorem Kids.push {V' : Option Addr} {c' lo : Nat} {e : Ex} {r : List Value} (h : Kids base W es V c rows) (hlo : base ≤ lo) (hold : ∀ q, (Value.slice V es.length c).ownBlock = some q → q < lo) (hE : ExF (fun b => lo ≤ b ∧ b < W.heap.size) W.heap.size W e r)
    (hown : W'.ownsRow base 27 7 (.slice V' (es.length + 1) c') (es.length + 1) (kdF rows es.length ++ r)) (hg : W.grownBy W' (Value.slice V es.length c).ownBlock)
    (hat : (Value.slice V' (es.length + 1) c').ownBlock = (Value.slice V es.length c).ownBlock ∨ (Value.slice V' (es.length + 1) c').ownBlock = some W.heap.size) :
    Kids base W' (es ++ [e]) V' c' (fun i => if i = es.length then r else rows i) := by
  have hl : (es ++ [e]).length = es.length + 1 := by simp
  have hne : ∀ b, b < W.heap.size → some b ≠ (Value.slice V es.length c).ownBlock → some b ≠ (Value.slice V' (es.length + 1) c').ownBlock := fun b hb hne => by
    rcases hat with h1 | h1
    · rw [h1]; exact hne
    · rw [h1]; intro e; injection e with e; omega
  have hkeep : ∀ p : Addr, p.block < W.heap.size → some p.block ≠ (Value.slice V es.length c).ownBlock → W'.cell? p = W.cell? p := fun p h1 h2 => World.cell?_of_block (hg.block p.block h1 h2)
  constructor
  · rw [hl, kdF, if_pos rfl, kdF_same (rows' := rows) fun i hi => if_neg (by omega)]
    exact hown
  · intro i x hx
    rw [hl]
    by_cases hi : i < es.length
    · rw [List.getElem?_append_left hi] at hx
      rw [if_neg (by omega)]
      exact ((h.kid i x hx).keep (W' := W') fun p hp => hkeep p hp.2.1 hp.2.2).mono (fun b hb => ⟨hb.1, Nat.lt_of_lt_of_le hb.2.1 hg.size, hne b hb.2.1 hb.2.2⟩) hg.size
    · have hi' : i = es.length := by have := getElem?_lt hx; simp at this; omega
      subst hi'
      simp at hx
      subst hx
      rw [if_pos rfl]
      have hx : ∀ b, lo ≤ b → some b ≠ (Value.slice V es.length c).ownBlock := fun b hb e => by have := hold b e.symm; omega
      exact (hE.keep (W' := W') fun p hp => hkeep p hp.2 (hx _ hp.1)).mono (fun b hb => ⟨Nat.le_trans hlo hb.1, Nat.lt_of_lt_of_le hb.2 hg.size, hne b hb.2 (hx b hb.1)⟩) hg.size
theorem Kids.old (h : Kids base W es V c rows) : ∀ q, (Value.slice V es.length c).ownBlock = some q → q < W.heap.size := fun q hq => (h.own.lt q hq).2
/-- where the row lies -/
theorem Kids.shape (h : Kids base W es V c rows) : es.length ≤ c ∧ c ≤ maxLen ∧ (V = none → c = 0) ∧ (0 < es.length → ∃ ad : Addr, V = some ad ∧ ad.block < W.heap.size ∧ base ≤ ad.block ∧ ad.block < W.heap.size) ∧
    ∀ (i : Nat) (e : Ex) (ad : Addr), es[i]? = some e → V = some ad → ∀ j u, (rows i)[j]? = some u → W.cell? ((ad.add (i * 7)).add j) = some u := by
  have ho := h.own
  have hlt := ho.lt
  have h7 := h.len7
  rcases ho.2 with ⟨h1, h2⟩ | ⟨g1, cap, cur, hv, h3, h4, h5, h6, _⟩
  · injection h1 with e1 e2 e3
    subst e1 e3
    exact ⟨by omega, by unfold maxLen; omega, fun _ => rfl, fun h => by omega, fun _ _ _ _ h => by cases h⟩
  · injection hv with e1 e2 e3
    subst e1 e3
    refine ⟨h5, h6, fun h => (by cases h), fun _ => ⟨_, rfl, (hlt g1 rfl).2, (hlt g1 rfl).1, (hlt g1 rfl).2⟩, fun i e ad he hA j u hu => ?_⟩
    injection hA with hA
    subst hA
    rw [add_add']
    exact ho.cells rfl _ u (kdF_get h7 (getElem?_lt he) hu)
/-- the node of these kids -/
theorem Kids.node (h : Kids base W es V c rows) (k a b c' d : Int) (t : ByteArray) (ht : t.size ≤ maxLen) : ExF (fun b => base ≤ b ∧ b < W.heap.size) W.heap.size W (.mk k a b c' d t es) (exCells k a b c' d t V es.length c) := by
  obtain ⟨h1, h2, h3, h4, h5⟩ := h.shape
  exact ExF.node ht h1 h2 h3 h4 (fun i e he => (h.kid i e he).mono (fun b hb => ⟨hb.1, hb.2.1⟩) (Nat.le_refl _)) h5
end
/-- a node over a block of its one kid's cells, of its two kids' -/
theorem ExF.one {S : Nat → Prop} {hi b : Nat} {W : World} {T : TypeId} {e : Ex} {r : List Value} {cs : Array Value} (h : ExF S hi W e r) (hb : Blk W b T cs) (hcs : cs.toList = r) (hS : S b) (hlt : b < hi) (k : Int) : ExF S hi W (ofN k [e]) (exCells k 0 0 0 0 ⟨#[]⟩ (some ⟨b, 0, none⟩) 1 1) :=
  ExF.node (ks := [e]) (rows := fun _ => r) (by decide) (Nat.le_refl _) (by simp [maxLen]) (fun h => by cases h) (fun _ => ⟨_, rfl, hlt, hS⟩) (fun i x hx => by
    match i, hx with
    | 0, hx => simp at hx; subst hx; exact h) fun i x ad hx hA j u hu => by
    match i, hx with
    | 0, hx =>
      injection hA with hA
      subst hA
      rw [Nat.zero_mul, add_at, cell_add, hb.cell, ← Array.getElem?_toList, hcs, Nat.zero_add]
      exact hu
theorem ExF.two {S : Nat → Prop} {hi b : Nat} {W : World} {T : TypeId} {e f : Ex} {r q : List Value} {cs : Array Value} (h : ExF S hi W e r) (h' : ExF S hi W f q) (hb : Blk W b T cs) (hcs : cs.toList = r ++ q) (hS : S b) (hlt : b < hi) (k : Int) : ExF S hi W (ofN k [e, f]) (exCells k 0 0 0 0 ⟨#[]⟩ (some ⟨b, 0, none⟩) 2 2) :=
  have h7 := h.len7
  ExF.node (ks := [e, f]) (rows := fun i => if i = 0 then r else q) (by decide) (Nat.le_refl _) (by simp [maxLen]) (fun h => by cases h) (fun _ => ⟨_, rfl, hlt, hS⟩) (fun i x hx => by
    match i, hx with
    | 0, hx => simp at hx; subst hx; exact h
    | 1, hx => simp at hx; subst hx; exact h') fun i x ad hx hA j u hu => by
    match i, hx with
    | 0, hx =>
      injection hA with hA
      subst hA
      rw [if_pos rfl] at hu
      rw [Nat.zero_mul, add_at, cell_add, hb.cell, ← Array.getElem?_toList, hcs, Nat.zero_add, List.getElem?_append_left (getElem?_lt hu)]
      exact hu
    | 1, hx =>
      injection hA with hA
      subst hA
      rw [if_neg (by decide)] at hu
      rw [add_at, cell_add, hb.cell, ← Array.getElem?_toList, hcs, List.getElem?_append_right (by omega), h7, Nat.one_mul, Nat.add_sub_cancel_left]
      exact hu
/-- append to a row of one's own, and where its block lies then -/
theorem stepT_append_at {P : Program} {o : Oper} {a : Act} {w : World} {K : Act → World → Prop}
    (s x : Operand) (t : TypeId) (hop : o.op = Op.call { callee := Callee.builtin Builtin.append, args := #[s, x], argTypes := #[t, t] })
    (base : Nat) (e : TypeId) (i : TypeInfo) (z : Value) (size bytes : Nat) (h1 : P.underlying t = some (.slice e)) (h2 : P.info? e = some i) (h3 : i.zero = some z) (h4 : i.size = size) (h5 : i.bytes = bytes) (h6 : z.cells.size = size) (h7 : 0 < size)
    (v : Value) (n : Nat) (xs : List Value) (hs : a.eval s = v) (hown : w.ownsRow base e size v n xs)
    (ad : Addr) (m c : Nat) (news : List Value) (hx : a.eval x = .slice (some ad) m c) (hn : news.length = m * size) (hc : ∀ j u, news[j]? = some u → w.cell? (ad.add j) = some u) (h1c : ∀ u ∈ news, u.oneCell' = true)
    (b1 : n + m ≤ maxLen) (b2 : (n + m) * bytes ≤ 140737488355328) (hb : base ≤ w.heap.size)
    (hK : ∀ v' w', w'.ownsRow base e size v' (n + m) (xs ++ news) → w.grownBy w' v.ownBlock → (v'.ownBlock = v.ownBlock ∨ v'.ownBlock = some w.heap.size) → K (a.put o.dst v') w') : stepT P o a w K := by
  obtain ⟨v', w', hrun, r1, r2, _, r3⟩ := run_append_own_at (P := P) w base t o.type e i z size bytes h1 h2 h3 h4 h5 h6 h7 v n xs hown ad m c news hn hc h1c b1 b2 hb
  unfold stepT
  simp [execOp, hop, resolve, invoke, builtin, hs, hx, hrun, Result.andThen]
  exact hK v' w' r1 r2 r3
theorem expr_info : (Tryd.prog.info? 27).map (fun i => (i.zero, i.size, i.bytes)) = some (some (.agg #[.int .i64 0, .int .u64 0, .int .u64 0, .int .u64 0, .int .u64 0, .string ⟨#[]⟩, .slice none 0 0]), 7, 80) := by kernel_rfl
/-- no node has more than eight kids -/
inductive K8 : Ex → Prop
  | mk (k a b c d : Int) (t : ByteArray) (ks : List Ex) : ks.length ≤ 8 → (∀ e ∈ ks, K8 e) → K8 (.mk k a b c d t ks)
/-- what a region reads where a kid is appended: the box of what is made, the kid's box -/
structure KdC (ob kb : Nat) (o k : Array Value) (W : World) : Prop where
  out : Blk W ob 27 o
  kid : Blk W kb 27 k
theorem KdC.below {ob kb : Nat} {o k : Array Value} {W W' : World} (h : KdC ob kb o k W) (hb : Below W.heap.size W W') : KdC ob kb o k W' := ⟨h.out.below hb h.out.lt, h.kid.below hb h.kid.lt⟩
theorem KdC.drew {ob kb : Nat} {o k : Array Value} {W : World} (h : KdC ob kb o k W) : KdC ob kb o k W.drew := ⟨h.out.drew, h.kid.drew⟩
theorem KdC.grown {ob kb : Nat} {o k : Array Value} {W W' : World} {r : Option Nat} (h : KdC ob kb o k W) (hg : W.grownBy W' r) (h1 : some ob ≠ r) (h2 : some kb ≠ r) : KdC ob kb o k W' := ⟨h.out.grown hg h1, h.kid.grown hg h2⟩
end Go.Proofs.YtndhbdbfjkmloaaDoor
namespace Go.Proofs.YtndhbdbfjkmloaaDoor
open Go.RowKit

/-- what the reader holds of a sign -/
structure TkV where
  n : Nat
  nd : Bool
  k : Int
  a : Int
  b : Int
  c : Int
  d : Int
  t : ByteArray
  sg : Nat
def tkE (n : Nat) : Ex → TkV | .mk k a b c d t _ => ⟨n, true, k, a, b, c, d, t, 0⟩
def tkV : Tok → TkV
  | .nd e n => tkE n e
  | .sg c n => ⟨n, false, 0, 0, 0, 0, 0, ⟨#[]⟩, c⟩
  | _ => ⟨0, false, 0, 0, 0, 0, 0, ⟨#[]⟩, 0⟩
def rdC (s : ByteArray) (h : Bool) (i : Nat) (v : TkV) : Array Value :=
  #[.string s, .bool h, .int .i64 (i : Int), .int .i64 ((i + v.n : Nat) : Int), .bool v.nd, .int .i64 v.k, .int .u64 v.a, .int .u64 v.b, .int .u64 v.c, .int .u64 v.d, .string v.t, .slice none 0 0, .int .u8 (v.sg : Int)]
/-- the reader stands at what is left, l -/
structure RdAt (s : ByteArray) (h : Bool) (rb : Nat) (l : List UInt8) (W : World) : Prop where
  blk : Blk W rb 119 (rdC s h (posL s l) (tkV (tokL l)))
  sfx : ∃ i, i ≤ s.size ∧ l = s.data.toList.drop i
  good : (tokL l).isBad = false
theorem grownSet {W W' : World} {rb : Nat} (h : W.grownBy W' (some rb)) (i : Nat) (u : Value) : W.grownBy (W'.setCell ⟨rb, i, none⟩ u) (some rb) :=
  ⟨h.os, h.tape, h.output, by simp [World.setCell]; exact h.size, fun k hk hne => (Below.heap_setCell W' ⟨rb, i, none⟩ u k (fun e => hne (by rw [e]))).trans (h.block k hk hne)⟩
theorem grownBel {W W' W2 : World} {rb : Nat} (h : W.grownBy W' (some rb)) (hb : Below W'.heap.size W' W2) : W.grownBy W2 (some rb) := h.trans (grown_of_below hb _)
theorem grownDrew {W W' : World} {r : Option Nat} (h : W.grownBy W' r) : W.grownBy W'.drew r := ⟨h.os, h.tape, h.output, h.size, h.block⟩

theorem node_blk {rb : Nat} {W : World} {s : ByteArray} {h : Bool} {i j : Int} {nd : Bool} {k0 a0 b0 c0 d0 : Int} {t0 : ByteArray} {V0 : Value} {sg : Int} (hb : Blk W rb 119 #[.string s, .bool h, .int .i64 i, .int .i64 j, .bool nd, .int .i64 k0, .int .u64 a0, .int .u64 b0, .int .u64 c0, .int .u64 d0, .string t0, V0, .int .u8 sg]) (k a b c d : Int) (t : ByteArray) :
    Blk ((((((((W.setCell ⟨rb, 4, none⟩ (.bool true)).setCell ⟨rb, 5, none⟩ (.int .i64 k)).setCell ⟨rb, 6, none⟩ (.int .u64 a)).setCell ⟨rb, 7, none⟩ (.int .u64 b)).setCell ⟨rb, 8, none⟩ (.int .u64 c)).setCell ⟨rb, 9, none⟩ (.int .u64 d)).setCell ⟨rb, 10, none⟩ (.string t)).setCell ⟨rb, 11, none⟩ (.slice none 0 0)) rb 119 #[.string s, .bool h, .int .i64 i, .int .i64 j, .bool true, .int .i64 k, .int .u64 a, .int .u64 b, .int .u64 c, .int .u64 d, .string t, .slice none 0 0, .int .u8 sg] := by
  have h0 : Blk (W.setCell ⟨rb, 4, none⟩ (.bool true)) rb 119 #[.string s, .bool h, .int .i64 i, .int .i64 j, .bool true, .int .i64 k0, .int .u64 a0, .int .u64 b0, .int .u64 c0, .int .u64 d0, .string t0, V0, .int .u8 sg] := hb.set_ 4 _
  have h1 : Blk ((W.setCell ⟨rb, 4, none⟩ (.bool true)).setCell ⟨rb, 5, none⟩ (.int .i64 k)) rb 119 #[.string s, .bool h, .int .i64 i, .int .i64 j, .bool true, .int .i64 k, .int .u64 a0, .int .u64 b0, .int .u64 c0, .int .u64 d0, .string t0, V0, .int .u8 sg] := h0.set_ 5 _
  have h2 : Blk (((W.setCell ⟨rb, 4, none⟩ (.bool true)).setCell ⟨rb, 5, none⟩ (.int .i64 k)).setCell ⟨rb, 6, none⟩ (.int .u64 a)) rb 119 #[.string s, .bool h, .int .i64 i, .int .i64 j, .bool true, .int .i64 k, .int .u64 a, .int .u64 b0, .int .u64 c0, .int .u64 d0, .string t0, V0, .int .u8 sg] := h1.set_ 6 _
  have h3 : Blk ((((W.setCell ⟨rb, 4, none⟩ (.bool true)).setCell ⟨rb, 5, none⟩ (.int .i64 k)).setCell ⟨rb, 6, none⟩ (.int .u64 a)).setCell ⟨rb, 7, none⟩ (.int .u64 b)) rb 119 #[.string s, .bool h, .int .i64 i, .int .i64 j, .bool true, .int .i64 k, .int .u64 a, .int .u64 b, .int .u64 c0, .int .u64 d0, .string t0, V0, .int .u8 sg] := h2.set_ 7 _
  have h4 : Blk (((((W.setCell ⟨rb, 4, none⟩ (.bool true)).setCell ⟨rb, 5, none⟩ (.int .i64 k)).setCell ⟨rb, 6, none⟩ (.int .u64 a)).setCell ⟨rb, 7, none⟩ (.int .u64 b)).setCell ⟨rb, 8, none⟩ (.int .u64 c)) rb 119 #[.string s, .bool h, .int .i64 i, .int .i64 j, .bool true, .int .i64 k, .int .u64 a, .int .u64 b, .int .u64 c, .int .u64 d0, .string t0, V0, .int .u8 sg] := h3.set_ 8 _
  have h5 : Blk ((((((W.setCell ⟨rb, 4, none⟩ (.bool true)).setCell ⟨rb, 5, none⟩ (.int .i64 k)).setCell ⟨rb, 6, none⟩ (.int .u64 a)).setCell ⟨rb, 7, none⟩ (.int .u64 b)).setCell ⟨rb, 8, none⟩ (.int .u64 c)).setCell ⟨rb, 9, none⟩ (.int .u64 d)) rb 119 #[.string s, .bool h, .int .i64 i, .int .i64 j, .bool true, .int .i64 k, .int .u64 a, .int .u64 b, .int .u64 c, .int .u64 d, .string t0, V0, .int .u8 sg] := h4.set_ 9 _
  have h6 : Blk (((((((W.setCell ⟨rb, 4, none⟩ (.bool true)).setCell ⟨rb, 5, none⟩ (.int .i64 k)).setCell ⟨rb, 6, none⟩ (.int .u64 a)).setCell ⟨rb, 7, none⟩ (.int .u64 b)).setCell ⟨rb, 8, none⟩ (.int .u64 c)).setCell ⟨rb, 9, none⟩ (.int .u64 d)).setCell ⟨rb, 10, none⟩ (.string t)) rb 119 #[.string s, .bool h, .int .i64 i, .int .i64 j, .bool true, .int .i64 k, .int .u64 a, .int .u64 b, .int .u64 c, .int .u64 d, .string t, V0, .int .u8 sg] := h5.set_ 10 _
  have h7 : Blk ((((((((W.setCell ⟨rb, 4, none⟩ (.bool true)).setCell ⟨rb, 5, none⟩ (.int .i64 k)).setCell ⟨rb, 6, none⟩ (.int .u64 a)).setCell ⟨rb, 7, none⟩ (.int .u64 b)).setCell ⟨rb, 8, none⟩ (.int .u64 c)).setCell ⟨rb, 9, none⟩ (.int .u64 d)).setCell ⟨rb, 10, none⟩ (.string t)).setCell ⟨rb, 11, none⟩ (.slice none 0 0)) rb 119 #[.string s, .bool h, .int .i64 i, .int .i64 j, .bool true, .int .i64 k, .int .u64 a, .int .u64 b, .int .u64 c, .int .u64 d, .string t, .slice none 0 0, .int .u8 sg] := h6.set_ 11 _
  exact h7
theorem zero_blk {rb : Nat} {W : World} {s : ByteArray} {h : Bool} {i j : Int} {nd : Bool} {k0 a0 b0 c0 d0 : Int} {t0 : ByteArray} {V0 : Value} {sg : Int} (hb : Blk W rb 119 #[.string s, .bool h, .int .i64 i, .int .i64 j, .bool nd, .int .i64 k0, .int .u64 a0, .int .u64 b0, .int .u64 c0, .int .u64 d0, .string t0, V0, .int .u8 sg]) (x : Int) :
    Blk (((((((((((W.setCell ⟨rb, 2, none⟩ (.int .i64 x)).setCell ⟨rb, 3, none⟩ (.int .i64 x)).setCell ⟨rb, 4, none⟩ (.bool false)).setCell ⟨rb, 5, none⟩ (.int .i64 0)).setCell ⟨rb, 6, none⟩ (.int .u64 0)).setCell ⟨rb, 7, none⟩ (.int .u64 0)).setCell ⟨rb, 8, none⟩ (.int .u64 0)).setCell ⟨rb, 9, none⟩ (.int .u64 0)).setCell ⟨rb, 10, none⟩ (.string ⟨#[]⟩)).setCell ⟨rb, 11, none⟩ (.slice none 0 0)).setCell ⟨rb, 12, none⟩ (.int .u8 0)) rb 119 #[.string s, .bool h, .int .i64 x, .int .i64 x, .bool false, .int .i64 0, .int .u64 0, .int .u64 0, .int .u64 0, .int .u64 0, .string ⟨#[]⟩, .slice none 0 0, .int .u8 0] ∧ W.grownBy (((((((((((W.setCell ⟨rb, 2, none⟩ (.int .i64 x)).setCell ⟨rb, 3, none⟩ (.int .i64 x)).setCell ⟨rb, 4, none⟩ (.bool false)).setCell ⟨rb, 5, none⟩ (.int .i64 0)).setCell ⟨rb, 6, none⟩ (.int .u64 0)).setCell ⟨rb, 7, none⟩ (.int .u64 0)).setCell ⟨rb, 8, none⟩ (.int .u64 0)).setCell ⟨rb, 9, none⟩ (.int .u64 0)).setCell ⟨rb, 10, none⟩ (.string ⟨#[]⟩)).setCell ⟨rb, 11, none⟩ (.slice none 0 0)).setCell ⟨rb, 12, none⟩ (.int .u8 0)) (some rb) := by
  have h0 : Blk (W.setCell ⟨rb, 2, none⟩ (.int .i64 x)) rb 119 #[.string s, .bool h, .int .i64 x, .int .i64 j, .bool nd, .int .i64 k0, .int .u64 a0, .int .u64 b0, .int .u64 c0, .int .u64 d0, .string t0, V0, .int .u8 sg] := hb.set_ 2 _
  have h1 : Blk ((W.setCell ⟨rb, 2, none⟩ (.int .i64 x)).setCell ⟨rb, 3, none⟩ (.int .i64 x)) rb 119 #[.string s, .bool h, .int .i64 x, .int .i64 x, .bool nd, .int .i64 k0, .int .u64 a0, .int .u64 b0, .int .u64 c0, .int .u64 d0, .string t0, V0, .int .u8 sg] := h0.set_ 3 _
  have h2 : Blk (((W.setCell ⟨rb, 2, none⟩ (.int .i64 x)).setCell ⟨rb, 3, none⟩ (.int .i64 x)).setCell ⟨rb, 4, none⟩ (.bool false)) rb 119 #[.string s, .bool h, .int .i64 x, .int .i64 x, .bool false, .int .i64 k0, .int .u64 a0, .int .u64 b0, .int .u64 c0, .int .u64 d0, .string t0, V0, .int .u8 sg] := h1.set_ 4 _
  have h3 : Blk ((((W.setCell ⟨rb, 2, none⟩ (.int .i64 x)).setCell ⟨rb, 3, none⟩ (.int .i64 x)).setCell ⟨rb, 4, none⟩ (.bool false)).setCell ⟨rb, 5, none⟩ (.int .i64 0)) rb 119 #[.string s, .bool h, .int .i64 x, .int .i64 x, .bool false, .int .i64 0, .int .u64 a0, .int .u64 b0, .int .u64 c0, .int .u64 d0, .string t0, V0, .int .u8 sg] := h2.set_ 5 _
  have h4 : Blk (((((W.setCell ⟨rb, 2, none⟩ (.int .i64 x)).setCell ⟨rb, 3, none⟩ (.int .i64 x)).setCell ⟨rb, 4, none⟩ (.bool false)).setCell ⟨rb, 5, none⟩ (.int .i64 0)).setCell ⟨rb, 6, none⟩ (.int .u64 0)) rb 119 #[.string s, .bool h, .int .i64 x, .int .i64 x, .bool false, .int .i64 0, .int .u64 0, .int .u64 b0, .int .u64 c0, .int .u64 d0, .string t0, V0, .int .u8 sg] := h3.set_ 6 _
  have h5 : Blk ((((((W.setCell ⟨rb, 2, none⟩ (.int .i64 x)).setCell ⟨rb, 3, none⟩ (.int .i64 x)).setCell ⟨rb, 4, none⟩ (.bool false)).setCell ⟨rb, 5, none⟩ (.int .i64 0)).setCell ⟨rb, 6, none⟩ (.int .u64 0)).setCell ⟨rb, 7, none⟩ (.int .u64 0)) rb 119 #[.string s, .bool h, .int .i64 x, .int .i64 x, .bool false, .int .i64 0, .int .u64 0, .int .u64 0, .int .u64 c0, .int .u64 d0, .string t0, V0, .int .u8 sg] := h4.set_ 7 _
  have h6 : Blk (((((((W.setCell ⟨rb, 2, none⟩ (.int .i64 x)).setCell ⟨rb, 3, none⟩ (.int .i64 x)).setCell ⟨rb, 4, none⟩ (.bool false)).setCell ⟨rb, 5, none⟩ (.int .i64 0)).setCell ⟨rb, 6, none⟩ (.int .u64 0)).setCell ⟨rb, 7, none⟩ (.int .u64 0)).setCell ⟨rb, 8, none⟩ (.int .u64 0)) rb 119 #[.string s, .bool h, .int .i64 x, .int .i64 x, .bool false, .int .i64 0, .int .u64 0, .int .u64 0, .int .u64 0, .int .u64 d0, .string t0, V0, .int .u8 sg] := h5.set_ 8 _
  have h7 : Blk ((((((((W.setCell ⟨rb, 2, none⟩ (.int .i64 x)).setCell ⟨rb, 3, none⟩ (.int .i64 x)).setCell ⟨rb, 4, none⟩ (.bool false)).setCell ⟨rb, 5, none⟩ (.int .i64 0)).setCell ⟨rb, 6, none⟩ (.int .u64 0)).setCell ⟨rb, 7, none⟩ (.int .u64 0)).setCell ⟨rb, 8, none⟩ (.int .u64 0)).setCell ⟨rb, 9, none⟩ (.int .u64 0)) rb 119 #[.string s, .bool h, .int .i64 x, .int .i64 x, .bool false, .int .i64 0, .int .u64 0, .int .u64 0, .int .u64 0, .int .u64 0, .string t0, V0, .int .u8 sg] := h6.set_ 9 _
  have h8 : Blk (((((((((W.setCell ⟨rb, 2, none⟩ (.int .i64 x)).setCell ⟨rb, 3, none⟩ (.int .i64 x)).setCell ⟨rb, 4, none⟩ (.bool false)).setCell ⟨rb, 5, none⟩ (.int .i64 0)).setCell ⟨rb, 6, none⟩ (.int .u64 0)).setCell ⟨rb, 7, none⟩ (.int .u64 0)).setCell ⟨rb, 8, none⟩ (.int .u64 0)).setCell ⟨rb, 9, none⟩ (.int .u64 0)).setCell ⟨rb, 10, none⟩ (.string ⟨#[]⟩)) rb 119 #[.string s, .bool h, .int .i64 x, .int .i64 x, .bool false, .int .i64 0, .int .u64 0, .int .u64 0, .int .u64 0, .int .u64 0, .string ⟨#[]⟩, V0, .int .u8 sg] := h7.set_ 10 _
  have h9 : Blk ((((((((((W.setCell ⟨rb, 2, none⟩ (.int .i64 x)).setCell ⟨rb, 3, none⟩ (.int .i64 x)).setCell ⟨rb, 4, none⟩ (.bool false)).setCell ⟨rb, 5, none⟩ (.int .i64 0)).setCell ⟨rb, 6, none⟩ (.int .u64 0)).setCell ⟨rb, 7, none⟩ (.int .u64 0)).setCell ⟨rb, 8, none⟩ (.int .u64 0)).setCell ⟨rb, 9, none⟩ (.int .u64 0)).setCell ⟨rb, 10, none⟩ (.string ⟨#[]⟩)).setCell ⟨rb, 11, none⟩ (.slice none 0 0)) rb 119 #[.string s, .bool h, .int .i64 x, .int .i64 x, .bool false, .int .i64 0, .int .u64 0, .int .u64 0, .int .u64 0, .int .u64 0, .string ⟨#[]⟩, .slice none 0 0, .int .u8 sg] := h8.set_ 11 _
  have h10 : Blk (((((((((((W.setCell ⟨rb, 2, none⟩ (.int .i64 x)).setCell ⟨rb, 3, none⟩ (.int .i64 x)).setCell ⟨rb, 4, none⟩ (.bool false)).setCell ⟨rb, 5, none⟩ (.int .i64 0)).setCell ⟨rb, 6, none⟩ (.int .u64 0)).setCell ⟨rb, 7, none⟩ (.int .u64 0)).setCell ⟨rb, 8, none⟩ (.int .u64 0)).setCell ⟨rb, 9, none⟩ (.int .u64 0)).setCell ⟨rb, 10, none⟩ (.string ⟨#[]⟩)).setCell ⟨rb, 11, none⟩ (.slice none 0 0)).setCell ⟨rb, 12, none⟩ (.int .u8 0)) rb 119 #[.string s, .bool h, .int .i64 x, .int .i64 x, .bool false, .int .i64 0, .int .u64 0, .int .u64 0, .int .u64 0, .int .u64 0, .string ⟨#[]⟩, .slice none 0 0, .int .u8 0] := h9.set_ 12 _
  exact ⟨h10, grownSet (grownSet (grownSet (grownSet (grownSet (grownSet (grownSet (grownSet (grownSet (grownSet (grownSet (World.grownBy.refl W (some rb)) _ _) _ _) _ _) _ _) _ _) _ _) _ _) _ _) _ _) _ _) _ _⟩

set_option maxRecDepth 100000 in
set_option maxHeartbeats 4000000 in
theorem node_any (rb : Nat) (w : World) (s : ByteArray) (h : Bool) (i j : Int) (nd : Bool) (k0 a0 b0 c0 d0 : Int) (t0 : ByteArray) (V0 : Value) (sg : Int) (k a b c d : Int) (t : ByteArray)
    (hb : Blk w rb 119 #[.string s, .bool h, .int .i64 i, .int .i64 j, .bool nd, .int .i64 k0, .int .u64 a0, .int .u64 b0, .int .u64 c0, .int .u64 d0, .string t0, V0, .int .u8 sg]) :
    Calls Tryd.prog 115 #[.pointer (some ⟨rb, 0, none⟩), .agg #[.int .i64 k, .int .u64 a, .int .u64 b, .int .u64 c, .int .u64 d, .string t, .slice none 0 0]] w fun e w' => e = .returned (.tuple #[]) ∧ w.grownBy w' (some rb) ∧
      Blk w' rb 119 #[.string s, .bool h, .int .i64 i, .int .i64 j, .bool true, .int .i64 k, .int .u64 a, .int .u64 b, .int .u64 c, .int .u64 d, .string t, .slice none 0 0, .int .u8 sg] := by
  have hlt := hb.lt
  have x0 := hb.cell 4
  have x1 := hb.cell 5
  have x2 := hb.cell 6
  have x3 := hb.cell 7
  have x4 := hb.cell 8
  have x5 := hb.cell 9
  have x6 := hb.cell 10
  have x7 := hb.cell 11
  have f0 := hb.frozen 4
  have f1 := hb.frozen 5
  have f2 := hb.frozen 6
  have f3 := hb.frozen 7
  have f4 := hb.frozen 8
  have f5 := hb.frozen 9
  have f6 := hb.frozen 10
  have f7 := hb.frozen 11
  go_enter Tryd.func115, Tryd.ntmps115
  go_wp2
  go_region
  go_end0
  refine ⟨rfl, grownDrew (((((((((((World.grownBy.refl w (some rb)).trans (grownSet (World.grownBy.refl _ _) _ _)).trans (grownSet (World.grownBy.refl _ _) _ _)).trans (grownSet (World.grownBy.refl _ _) _ _)).trans (grownSet (World.grownBy.refl _ _) _ _)).trans (grownSet (World.grownBy.refl _ _) _ _)).trans (grownSet (World.grownBy.refl _ _) _ _)).trans (grownSet (World.grownBy.refl _ _) _ _)).trans (grownSet (World.grownBy.refl _ _) _ _)).trans (World.grownBy_alloc _ _ _))), ?_⟩
  exact ((node_blk hb k a b c d t).alloc _).drew

theorem notU_nat {x : Nat} (h : x < 18446744073709551616) : notU (x : Int) = ((18446744073709551615 - x : Nat) : Int) := by
  have h1 := notU_bv (BitVec.ofNat 64 x)
  rw [BitVec.toNat_not, BitVec.toNat_ofNat, Nat.mod_eq_of_lt (by omega)] at h1
  rw [h1]
theorem notV_is {w : List Nat} (hl : w.length = 4) (hw : Words w) : notV w = vals (notL w) := by
  obtain ⟨a, b, c, d, rfl⟩ := four_of hl
  have h0 := hw 0
  have h1 := hw 1
  have h2 := hw 2
  have h3 := hw 3
  simp only [List.getD_cons_zero, List.getD_cons_succ] at h0 h1 h2 h3
  unfold notV S4.map2 S4.val vals notL
  simp only [List.map_cons, List.map_nil, List.getD_cons_zero, List.getD_cons_succ, notU_nat h0, notU_nat h1, notU_nat h2, notU_nat h3]
theorem rangeFR : rangeL 0 256 = [18446744073709551615, 18446744073709551615, 18446744073709551615, 18446744073709551615] := by decide +kernel
theorem fullR_any (w : World) : Calls Tryd.prog 56 #[.int .i64 0, .int .i64 255] w fun e w' => e = .returned (.agg #[.int .u64 wM, .int .u64 wM, .int .u64 wM, .int .u64 wM]) ∧ Below w.heap.size w w' := by
  refine (range_any 0 255 w (by unfold I64; omega) (by unfold I64; omega) 0 256 (.inl ⟨by omega, rfl⟩) (by decide)).mono fun e w' ⟨h, hb⟩ => ⟨?_, hb⟩
  rw [h, rangeFR]
  rfl
/-- what Unclass answers of a text that begins so -/
theorem unclass_all (u : ByteArray) (r : List UInt8) (hu : u.data.toList = 91 :: r) (hs : u.size ≤ 100000) (w : World) :
    Calls Tryd.prog 116 #[.string u] w fun e w' => Below w.heap.size w w' ∧ ((∃ o n, tokL (91 :: r) = .nd (eSet o) n ∧ e = .returned (.tuple #[vals o, .int .i64 ((n : Nat) : Int), .int .i64 0])) ∨
      ((tokL (91 :: r)).isBad = true ∧ e = .returned (.tuple #[vals [0, 0, 0, 0], .int .i64 0, .int .i64 4]))) := by
  have hz : u.size = r.length + 1 := by rw [← size_list, hu]; rfl
  have hq : bt u.data.toList 0 = 91 := by rw [hu]; rfl
  have ht : tokL (91 :: r) = if bt r 0 = 94 then (match unc (r.length + 2) (r.drop 1) [0, 0, 0, 0] with
        | none => .bad
        | some (w, n) => .nd (eSet (notL w)) (n + 2)) else (match unc (r.length + 2) r [0, 0, 0, 0] with
        | none => .bad
        | some (w, n) => .nd (eSet w) (n + 1)) := by rw [tokL, if_neg (by decide), if_pos rfl]; rfl
  have h1 : bt u.data.toList 1 = bt r 0 := by rw [hu]; rfl
  have d1 : u.data.toList.drop 1 = r := by rw [hu]; rfl
  have d2 : u.data.toList.drop 2 = r.drop 1 := by rw [hu]; rfl
  rw [ht]
  by_cases h94 : bt r 0 = 94
  · have hr := bt_ne_len h94 (by decide)
    rw [if_pos h94]
    generalize hx : unc (r.length + 2) (r.drop 1) [0, 0, 0, 0] = x
    cases x with
    | none => exact (unclass_no2 u w (by omega) (by omega) hq (by rw [h1]; exact h94) 2 rfl (r.length + 2) (by omega) (by rw [d2]; exact hx)).mono fun e w' ⟨h, hb⟩ => ⟨hb, .inr ⟨rfl, h⟩⟩
    | some y =>
      obtain ⟨o, n⟩ := y
      obtain ⟨_, _, b3, b4⟩ := unc_bd _ _ _ _ _ rfl Words.zero hx
      refine (unclass_two u w (by omega) (by omega) hq (by rw [h1]; exact h94) 2 rfl o n (r.length + 2) (by omega) (by rw [d2]; exact hx)).mono fun e w' ⟨h, hb⟩ => ⟨hb, .inl ⟨notL o, n + 2, rfl, ?_⟩⟩
      rw [h, notV_is b3 b4, Nat.add_comm]
  · rw [if_neg h94]
    generalize hx : unc (r.length + 2) r [0, 0, 0, 0] = x
    cases x with
    | none =>
      by_cases h1s : u.size = 1
      · exact (unclass_no0 u w h1s hq).mono fun e w' ⟨h, hb⟩ => ⟨hb, .inr ⟨rfl, h⟩⟩
      · exact (unclass_no1 u w (by omega) (by omega) hq (by rw [h1]; exact h94) 1 rfl (r.length + 2) (by omega) (by rw [d1]; exact hx)).mono fun e w' ⟨h, hb⟩ => ⟨hb, .inr ⟨rfl, h⟩⟩
    | some y =>
      obtain ⟨o, n⟩ := y
      have hr : 0 < r.length := by
        cases r with
        | nil => rw [unc_nil] at hx; cases hx
        | cons => simp
      refine (unclass_one u w (by omega) (by omega) hq (by rw [h1]; exact h94) 1 rfl o n (r.length + 2) (by omega) (by rw [d1]; exact hx)).mono fun e w' ⟨h, hb⟩ => ⟨hb, .inl ⟨o, n + 1, rfl, ?_⟩⟩
      rw [h, Nat.add_comm]
/-- what Unlit answers of a text that begins so -/
theorem unlit_all (u : ByteArray) (c : UInt8) (r : List UInt8) (hc : c = 39 ∨ c = 34) (hu : u.data.toList = c :: r) (hs : u.size ≤ 100000) (w : World) :
    Calls Tryd.prog 77 #[.string u] w fun e w' => Below w.heap.size w w' ∧ ((∃ o n, tokL (c :: r) = .nd (if o = [] then eNil else eLit o) n ∧ e = .returned (.tuple #[.string ⟨o.toArray⟩, .int .i64 ((n : Nat) : Int), .int .i64 0])) ∨
      ((tokL (c :: r)).isBad = true ∧ e = .returned (.tuple #[.string ⟨#[]⟩, .int .i64 0, .int .i64 4]))) := by
  have hz : u.size = r.length + 1 := by rw [← size_list, hu]; rfl
  have hq : bt u.data.toList 0 = c.toNat := by rw [hu]; rfl
  have hq2 : c.toNat = 39 ∨ c.toNat = 34 := by
    rcases hc with rfl | rfl
    · exact .inl rfl
    · exact .inr rfl
  have ht : tokL (c :: r) = (match unl c.toNat sgU.data.toList (r.length + 1) r with
      | none => .bad
      | some (o, n) => .nd (if o = [] then eNil else eLit o) (n + 1)) := by rw [tokL, if_pos hc]; rfl
  have d1 : u.data.toList.drop 1 = r := by rw [hu]; rfl
  rw [ht]
  generalize hx : unl c.toNat sgU.data.toList (r.length + 1) r = x
  cases x with
  | none => exact (unlit_no u w (by omega) (by omega) c.toNat hq hq2 hs (by rw [d1, hz]; exact hx)).mono fun e w' ⟨h, hb⟩ => ⟨hb, .inr ⟨rfl, h⟩⟩
  | some y =>
    obtain ⟨o, n⟩ := y
    have hbd := unl_bd _ _ _ _ _ _ hx
    refine (unlit_yes u w (by omega) (by omega) c.toNat hq hq2 o n (by rw [d1, hz]; exact hx) (by omega)).mono fun e w' ⟨h, hb⟩ => ⟨hb, .inl ⟨o, n + 1, rfl, ?_⟩⟩
    rw [h, Nat.add_comm]
end Go.Proofs.YtndhbdbfjkmloaaDoor
