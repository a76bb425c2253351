/- Grammars in memory; a kid, a rule, with all its cells. How a grammar that came in is opened. Expressions as text, and how a text is read as one: plain. A class that was written is read as it was: plain. Signs of a text, one by one: plain. -/
import Derived.Test.YtndhbdbfjkmloaaDoorJReadBack2
import Derived.Test.YtndhbdbfjkmloaaDoorJReadBack0
import Derived.Test.YtndhbdbfjkmloaaDoorJReadBack1
import Derived.Lib.Join
namespace Go.Proofs.YtndhbdbfjkmloaaDoor
open Go.RowKit

/-- the cells of an expression at p, as a walk spells them -/
structure Seven (w : World) (p : Addr) (k a b c d : Int) (t : ByteArray) (A : Option Addr) (n cp : Nat) : Prop where
  c0 : w.cell? p = some (.int .i64 k)
  c1 : w.cell? ⟨p.block, p.off + 1, none⟩ = some (.int .u64 a)
  c2 : w.cell? ⟨p.block, p.off + 2, none⟩ = some (.int .u64 b)
  c3 : w.cell? ⟨p.block, p.off + 3, none⟩ = some (.int .u64 c)
  c4 : w.cell? ⟨p.block, p.off + 4, none⟩ = some (.int .u64 d)
  c5 : w.cell? ⟨p.block, p.off + 5, none⟩ = some (.string t)
  c6 : w.cell? ⟨p.block, p.off + 6, none⟩ = some (.slice A n cp)
theorem Seven.of {w : World} {p : Addr} {k a b c d : Int} {t : ByteArray} {A : Option Addr} {n cp : Nat}
    (h : ∀ j u, (exCells k a b c d t A n cp)[j]? = some u → w.cell? (p.add j) = some u) : Seven w p k a b c d t A n cp :=
  ⟨h 0 _ rfl, h 1 _ rfl, h 2 _ rfl, h 3 _ rfl, h 4 _ rfl, h 5 _ rfl, h 6 _ rfl⟩

section
variable {w : World} {B : Nat} {k a b c d : Int} {t : ByteArray} {ks : List Ex} {cs : List Value} {A : Option Addr} {n cp : Nat}
theorem ExIs.shape (h : ExIs w B (.mk k a b c d t ks) cs) : t.size ≤ maxLen ∧ ∃ A cp, cs = exCells k a b c d t A ks.length cp ∧ ks.length ≤ cp ∧ cp ≤ maxLen ∧ (A = none → cp = 0) := by
  cases h with
  | mk _ _ _ _ _ _ _ A cp row ht hl hm hnone hb hr hc => exact ⟨ht, A, cp, rfl, hl, hm, hnone⟩
theorem ExIs.len (h : ExIs w B (.mk k a b c d t ks) (exCells k a b c d t A n cp)) : n = ks.length ∧ t.size ≤ maxLen ∧ n ≤ cp ∧ cp ≤ maxLen ∧ (A = none → cp = 0) := by
  obtain ⟨h1, A', cp', e, h2, h3, h4⟩ := h.shape
  simp only [exCells, List.cons.injEq, Value.slice.injEq, true_and, and_true] at e
  obtain ⟨rfl, rfl, rfl⟩ := e
  exact ⟨rfl, h1, h2, h3, h4⟩
theorem ExIs.kid (h : ExIs w B (.mk k a b c d t ks) (exCells k a b c d t A n cp)) {j : Nat} (hj : j < ks.length) :
    ∃ (ad : Addr) (k' a' b' c' d' : Int) (t' : ByteArray) (ks' : List Ex) (A' : Option Addr) (cp' : Nat), A = some ad ∧ ad.block < B ∧ ks[j]? = some (.mk k' a' b' c' d' t' ks') ∧
      ExIs w B (.mk k' a' b' c' d' t' ks') (exCells k' a' b' c' d' t' A' ks'.length cp') ∧ Seven w (ad.add (j * 7)) k' a' b' c' d' t' A' ks'.length cp' := by
  have hlen := h.len.1
  generalize he : exCells k a b c d t A n cp = cs at h
  cases h with
  | mk _ _ _ _ _ _ _ A0 cp0 row ht hl hm hnone hb hr hc =>
    simp only [exCells, List.cons.injEq, Value.slice.injEq, true_and, and_true] at he
    obtain ⟨rfl, _, rfl⟩ := he
    obtain ⟨ad, rfl, hab⟩ := hb (by omega)
    have hej : ks[j]? = some ks[j] := List.getElem?_eq_getElem hj
    generalize ks[j] = ej at hej
    have hE := hr j ej hej
    have hcc := hc j ej ad hej rfl
    generalize row j = rj at hE hcc
    cases ej with
    | mk k' a' b' c' d' t' ks' =>
    obtain ⟨_, A', cp', rfl, _⟩ := hE.shape
    exact ⟨ad, k', a', b', c', d', t', ks', A', cp', rfl, hab, hej, hE, Seven.of hcc⟩
/-- an expression of one node -/
theorem ExIs.leaf (w : World) (B : Nat) (k a b c d : Int) (t : ByteArray) (ht : t.size ≤ maxLen) : ExIs w B (.mk k a b c d t []) (exCells k a b c d t none 0 0) :=
  .mk k a b c d t [] none 0 (fun _ => []) ht (by simp) (by unfold maxLen; omega) (fun _ => rfl) (fun h => by simp at h) (fun i e h => by simp at h) (fun i e ad h => by simp at h)
end

/-- a rule: its name, its body -/
abbrev Rl := ByteArray × Ex
/-- the rules of a grammar, below block B -/
structure GrIs (w : World) (B : Nat) (g : List Rl) (A : Option Addr) (cp : Nat) (row : Nat → List Value) : Prop where
  le : g.length ≤ cp
  cap : cp ≤ maxLen
  nil : A = none → cp = 0
  lies : 0 < g.length → ∃ ad : Addr, A = some ad ∧ ad.block < B
  small : ∀ (i : Nat) (r : Rl), g[i]? = some r → r.1.size ≤ maxLen
  body : ∀ (i : Nat) (r : Rl), g[i]? = some r → ExIs w B r.2 (row i)
  name : ∀ (i : Nat) (r : Rl) (ad : Addr), g[i]? = some r → A = some ad → w.cell? (ad.add (i * 8)) = some (.string r.1)
  cell : ∀ (i : Nat) (r : Rl) (ad : Addr), g[i]? = some r → A = some ad → ∀ j u, (row i)[j]? = some u → w.cell? ((ad.add (i * 8)).add (j + 1)) = some u

section
variable {w w' : World} {B B' : Nat} {g : List Rl} {A : Option Addr} {cp : Nat} {row : Nat → List Value}
theorem GrIs.keep (h : GrIs w B g A cp row) (hB : B ≤ B') (hk : ∀ p : Addr, p.block < B → w'.cell? p = w.cell? p) : GrIs w' B' g A cp row where
  le := h.le
  cap := h.cap
  nil := h.nil
  lies h0 := by
    obtain ⟨ad, e, h1⟩ := h.lies h0
    exact ⟨ad, e, Nat.lt_of_lt_of_le h1 hB⟩
  small := h.small
  body i r hr := (h.body i r hr).keep hB hk
  name i r ad hr hA := by
    obtain ⟨ad', e', h1⟩ := h.lies (by have := getElem?_lt hr; omega)
    rw [hA] at e'
    injection e' with e'
    subst e'
    rw [hk _ (by rw [add_block]; exact h1)]
    exact h.name i r ad hr hA
  cell i r ad hr hA j u hu := by
    obtain ⟨ad', e', h1⟩ := h.lies (by have := getElem?_lt hr; omega)
    rw [hA] at e'
    injection e' with e'
    subst e'
    rw [hk _ (by rw [add_block, add_block]; exact h1)]
    exact h.cell i r ad hr hA j u hu
theorem GrIs.on (h : GrIs w B g A cp row) (hb : Below B w w') : GrIs w' B g A cp row := h.keep (Nat.le_refl _) fun _ => hb.cell
theorem GrIs.more (h : GrIs w B g A cp row) (hB : B ≤ B') : GrIs w B' g A cp row := h.keep hB fun _ _ => rfl
/-- the cells of a rule at p: its name, and its body's from the next on -/
structure Eight (w : World) (p : Addr) (nm : ByteArray) (k a b c d : Int) (t : ByteArray) (A : Option Addr) (n cp : Nat) : Prop where
  c0 : w.cell? p = some (.string nm)
  c1 : w.cell? ⟨p.block, p.off + 1, none⟩ = some (.int .i64 k)
  c2 : w.cell? ⟨p.block, p.off + 2, none⟩ = some (.int .u64 a)
  c3 : w.cell? ⟨p.block, p.off + 3, none⟩ = some (.int .u64 b)
  c4 : w.cell? ⟨p.block, p.off + 4, none⟩ = some (.int .u64 c)
  c5 : w.cell? ⟨p.block, p.off + 5, none⟩ = some (.int .u64 d)
  c6 : w.cell? ⟨p.block, p.off + 6, none⟩ = some (.string t)
  c7 : w.cell? ⟨p.block, p.off + 7, none⟩ = some (.slice A n cp)
theorem GrIs.rule (h : GrIs w B g A cp row) {j : Nat} (hj : j < g.length) :
    ∃ (ad : Addr) (nm : ByteArray) (k' a' b' c' d' : Int) (t' : ByteArray) (ks' : List Ex) (A' : Option Addr) (cp' : Nat), A = some ad ∧ ad.block < B ∧ g[j]? = some (nm, .mk k' a' b' c' d' t' ks') ∧ nm.size ≤ maxLen ∧
      ExIs w B (.mk k' a' b' c' d' t' ks') (exCells k' a' b' c' d' t' A' ks'.length cp') ∧ Eight w (ad.add (j * 8)) nm k' a' b' c' d' t' A' ks'.length cp' := by
  obtain ⟨ad, rfl, hab⟩ := h.lies (by omega)
  have hej : g[j]? = some g[j] := List.getElem?_eq_getElem hj
  generalize g[j] = ej at hej
  obtain ⟨nm, ej⟩ := ej
  have hE := h.body j _ hej
  have hn := h.name j _ ad hej rfl
  have hcc := h.cell j _ ad hej rfl
  have hs := h.small j _ hej
  generalize row j = rj at hE hcc
  cases ej with
  | mk k' a' b' c' d' t' ks' =>
  obtain ⟨_, A', cp', rfl, _⟩ := hE.shape
  exact ⟨ad, nm, k', a', b', c', d', t', ks', A', cp', rfl, hab, hej, hs, hE, hn, hcc 0 _ rfl, hcc 1 _ rfl, hcc 2 _ rfl, hcc 3 _ rfl, hcc 4 _ rfl, hcc 5 _ rfl, hcc 6 _ rfl⟩
end

/-- where a name is found from a place on; -1: nowhere -/
def fndFrom : List Rl → List UInt8 → Nat → Int
  | [], _, _ => -1
  | r :: rs, s, i => if r.1.data.toList = s then i else fndFrom rs s (i + 1)
def fnd (g : List Rl) (s : List UInt8) : Int := fndFrom g s 0
theorem fndFrom_le : ∀ (g : List Rl) (s : List UInt8) (i : Nat), -1 ≤ fndFrom g s i ∧ fndFrom g s i < i + g.length
  | [], s, i => by simp [fndFrom]; omega
  | r :: rs, s, i => by
    have := fndFrom_le rs s (i + 1)
    unfold fndFrom
    split
    · simp; omega
    · simp; omega
theorem drop_of {α : Type} {l : List α} {j : Nat} {x : α} (h : l[j]? = some x) : l.drop j = x :: l.drop (j + 1) := by
  have hj := getElem?_lt h
  rw [List.drop_eq_getElem_cons hj]
  rw [List.getElem?_eq_getElem hj] at h
  injection h with h
  rw [h]
theorem toList_eq_iff (a b : ByteArray) : (a.toList == b.toList) = decide (a.data.toList = b.data.toList) := by
  rw [ByteArray.toList_eq, ByteArray.toList_eq]
  by_cases h : a.data.toList = b.data.toList
  · rw [h]; simp
  · simp only [h, decide_false, beq_eq_false_iff_ne, ne_eq, not_false_eq_true]
end Go.Proofs.YtndhbdbfjkmloaaDoor
namespace Go.Proofs.YtndhbdbfjkmloaaDoor
open Go.ChangeShapes Go.WideShapes Go.ChangeAt Go.RowKit

/-- all numbers of an expression are of their width -/
inductive WfE : Ex → Prop
  | mk (k a b c d : Int) (t : ByteArray) (ks : List Ex) : I64 k → U64 a → U64 b → U64 c → U64 d → (∀ e ∈ ks, WfE e) → WfE (.mk k a b c d t ks)

set_option maxRecDepth 100000 in
theorem trod_exw {H : Type} {enc : TypeId × Value → H} {W : World} : ∀ (fuel : Nat) {cs : List Value} {x : DataW H × List MemPlace},
    DataW.trod enc Tryd.prog W 0 (fun _ => true) true fuel 27 cs = some x → ∃ e, ExIs W W.heap.size e cs ∧ WfE e := by
  intro fuel
  induction fuel using Nat.strongRecOn with
  | _ fuel ih =>
    intro cs x h
    obtain ⟨u, hu, hf⟩ := Option.map_eq_some_iff.1 ex_fields
    match u, hf with
    | .struct fs, hf =>
      obtain ⟨xs, n, rfl, _, hl, hlen, hget⟩ := DataW.trod_struct hu h
      rw [ex_cells] at hl
      have hf' : fs.toList.map (fun f => (f.type, f.offset)) = [(3, 0), (24, 1), (9, 5), (25, 6)] := hf
      have hfl : fs.toList.length = 4 := by have := congrArg List.length hf'; simpa using this
      have at_ : ∀ (i : Nat) (t o : Nat), [(3, 0), (24, 1), (9, 5), (25, 6)][i]? = some (t, o) → ∃ y, DataW.trod enc Tryd.prog W 0 (fun _ => true) true n t ((cs.drop o).take (Tryd.prog.cellsOf t)) = some y := by
        intro i t o hi
        rw [← hf', List.getElem?_map, Option.map_eq_some_iff] at hi
        obtain ⟨f, hf1, hf2⟩ := hi
        have hg := hget i f (by simpa using hf1)
        injection hf2 with e1 e2
        subst e1 e2
        have : i < xs.length := by
          have h3 := getElem?_lt hf1
          rw [hfl] at h3
          have h4 : fs.size = 4 := by simpa using hfl
          rw [hlen, h4]
          exact h3
        rw [List.getElem?_eq_getElem this] at hg
        exact ⟨_, hg⟩
      obtain ⟨y0, h0⟩ := at_ 0 _ _ rfl
      obtain ⟨y1, h1⟩ := at_ 1 _ _ rfl
      obtain ⟨y2, h2⟩ := at_ 2 _ _ rfl
      obtain ⟨y3, h3⟩ := at_ 3 _ _ rfl
      rw [show Tryd.prog.cellsOf 3 = 1 from by kernel_rfl] at h0
      rw [show Tryd.prog.cellsOf 24 = 4 from by kernel_rfl] at h1
      rw [show Tryd.prog.cellsOf 9 = 1 from by kernel_rfl] at h2
      rw [show Tryd.prog.cellsOf 25 = 1 from by kernel_rfl] at h3
      obtain ⟨k, e0, _, wk⟩ := DataW.trod_int Tryd.underlying3 h0
      obtain ⟨a, b, c, d, e1, wa, wb, wc, wd⟩ := trod_set Tryd.underlying24 Tryd.underlying22 (by kernel_rfl) (by kernel_rfl) h1
      obtain ⟨t, e2, _, wt⟩ := DataW.trod_string Tryd.underlying9 h2
      have wk' := I64_of_wf wk
      obtain ⟨c0, c1, c2, c3, c4, c5, c6, rfl⟩ := seven_of hl
      simp at e0 e1 e2
      subst e0 e2
      obtain ⟨rfl, rfl, rfl, rfl⟩ := e1
      rcases DataW.trod_slice Tryd.underlying25 h3 with ⟨e3, _⟩ | ⟨ad, len, cap, elems, rest, m, e4, e3, _, _, hlc, hcm, hel, hk, _⟩
      · simp at e3
        subst e3
        exact ⟨.mk k a b c d t [], .mk k a b c d t [] none 0 (fun _ => []) wt (by simp) (by unfold maxLen; omega) (fun _ => rfl) (fun h => by simp at h) (fun i e h => by simp at h) (fun i e ad h => by simp at h), .mk _ _ _ _ _ _ _ wk' wa wb wc wd (fun e he => by cases he)⟩
      · simp at e3
        subst e3
        have hk' : ∀ i, i < len → ∃ r : Ex × List Value, (ExIs W W.heap.size r.1 r.2 ∧ WfE r.1) ∧ ad.block < W.heap.size ∧ ∀ j u, r.2[j]? = some u → W.cell? ((ad.add (i * 7)).add j) = some u := by
          intro i hi
          have hg := hk i hi
          rw [List.getElem?_eq_getElem (by omega), ex_cells] at hg
          obtain ⟨ci, hc1, hc2⟩ := Option.bind_eq_some_iff.1 hg
          obtain ⟨e, he⟩ := ih m (by omega) hc2
          obtain ⟨_, hc3, hc4⟩ := World.cells?_some hc1
          have hb := World.block_lt_of_cell? W _ ((hc4 0 (by omega)).trans (List.getElem?_eq_getElem (by omega)))
          rw [add_block, add_block] at hb
          refine ⟨(e, ci), he, hb, fun j u hu => ?_⟩
          rw [hc4 j (by have := getElem?_lt hu; simp at this; omega)]
          exact hu
        obtain ⟨f, hf⟩ := @row_of (Ex × List Value) ⟨(.mk 0 0 0 0 0 ⟨#[]⟩ [], [])⟩ _ _ hk'
        have hlen' : ((List.range len).map fun i => (f i).1).length = len := by simp
        have hget : ∀ i e, ((List.range len).map fun i => (f i).1)[i]? = some e → i < len ∧ e = (f i).1 := by
          intro i e he
          have hi := getElem?_lt he
          rw [hlen'] at hi
          simp [hi] at he
          exact ⟨hi, he.symm⟩
        have hx := ExIs.mk (w := W) (B := W.heap.size) k a b c d t ((List.range len).map fun i => (f i).1) (some ad) cap (fun i => (f i).2) wt (by rw [hlen']; exact hlc) hcm (fun h => by cases h)
          (fun h => ⟨ad, rfl, (hf 0 (by rw [hlen'] at h; exact h)).2.1⟩) (fun i e he => by obtain ⟨hi, rfl⟩ := hget i e he; exact (hf i hi).1.1)
          (fun i e ad' he hA j u hu => by obtain ⟨hi, rfl⟩ := hget i e he; injection hA with hA; subst hA; exact (hf i hi).2.2 j u hu)
        rw [hlen'] at hx
        refine ⟨_, hx, .mk _ _ _ _ _ _ _ wk' wa wb wc wd fun e he => ?_⟩
        obtain ⟨i, hi⟩ := List.getElem?_of_mem he
        obtain ⟨hi', rfl⟩ := hget i e hi
        exact (hf i hi').1.2

theorem rule_fields : (Tryd.prog.underlying 71).map (fun u => match u with | .struct fs => fs.toList.map (fun f => (f.type, f.offset)) | _ => []) = some [(9, 0), (27, 1)] := by kernel_rfl
theorem rule_cells : Tryd.prog.cellsOf 71 = 8 := by kernel_rfl
theorem gram_fields : (Tryd.prog.underlying 39).map (fun u => match u with | .struct fs => fs.toList.map (fun f => (f.type, f.offset)) | _ => []) = some [(37, 0)] := by kernel_rfl
theorem gram_cells : Tryd.prog.cellsOf 39 = 1 := by kernel_rfl

set_option maxRecDepth 100000 in
theorem trod_rule {H : Type} {enc : TypeId × Value → H} {W : World} {fuel : Nat} {cs : List Value} {x : DataW H × List MemPlace}
    (h : DataW.trod enc Tryd.prog W 0 (fun _ => true) true fuel 71 cs = some x) : ∃ (r : Rl) (row : List Value), cs = .string r.1 :: row ∧ r.1.size ≤ maxLen ∧ ExIs W W.heap.size r.2 row ∧ WfE r.2 := by
  obtain ⟨u, hu, hf⟩ := Option.map_eq_some_iff.1 rule_fields
  match u, hf with
  | .struct fs, hf =>
    obtain ⟨xs, n, rfl, _, hl, hlen, hget⟩ := DataW.trod_struct hu h
    rw [rule_cells] at hl
    have hf' : fs.toList.map (fun f => (f.type, f.offset)) = [(9, 0), (27, 1)] := hf
    have hfl : fs.toList.length = 2 := by have := congrArg List.length hf'; simpa using this
    have at_ : ∀ (i : Nat) (t o : Nat), [(9, 0), (27, 1)][i]? = some (t, o) → ∃ y, DataW.trod enc Tryd.prog W 0 (fun _ => true) true n t ((cs.drop o).take (Tryd.prog.cellsOf t)) = some y := by
      intro i t o hi
      rw [← hf', List.getElem?_map, Option.map_eq_some_iff] at hi
      obtain ⟨f, hf1, hf2⟩ := hi
      have hg := hget i f (by simpa using hf1)
      injection hf2 with e1 e2
      subst e1 e2
      have : i < xs.length := by
        have h3 := getElem?_lt hf1
        rw [hfl] at h3
        have h4 : fs.size = 2 := by simpa using hfl
        rw [hlen, h4]
        exact h3
      rw [List.getElem?_eq_getElem this] at hg
      exact ⟨_, hg⟩
    obtain ⟨y0, h0⟩ := at_ 0 _ _ rfl
    obtain ⟨y1, h1⟩ := at_ 1 _ _ rfl
    rw [show Tryd.prog.cellsOf 9 = 1 from by kernel_rfl] at h0
    rw [ex_cells] at h1
    obtain ⟨s, e0, _, wt⟩ := DataW.trod_string Tryd.underlying9 h0
    obtain ⟨e, he, hw⟩ := trod_exw _ h1
    obtain ⟨c0, c1, c2, c3, c4, c5, c6, c7, rfl⟩ := eight_of hl
    simp at e0
    subst e0
    exact ⟨(s, e), _, rfl, wt, he, hw⟩
set_option maxRecDepth 100000 in
theorem open_gram {H : Type} {enc : TypeId × Value → H} {W : World} {v : Value} {d : DataW H} {p : List MemPlace} (hv : ∃ cs, v = .agg cs ∧ cs.size = Tryd.prog.cellsOf 39)
    (h : DataW.Trod enc Tryd.prog W 0 (fun _ => true) true 39 v d p) :
    ∃ (g : List Rl) (A : Option Addr) (cp : Nat) (row : Nat → List Value), v = .agg #[.slice A g.length cp] ∧ GrIs W W.heap.size g A cp row ∧ ∀ r ∈ g, WfE r.2 := by
  obtain ⟨ca, rfl, hsize⟩ := hv
  obtain ⟨fuel, h⟩ := h
  obtain ⟨u, hu, hf⟩ := Option.map_eq_some_iff.1 gram_fields
  match u, hf with
  | .struct fs, hf =>
    obtain ⟨xs, n, rfl, _, hl, hlen, hget⟩ := DataW.trod_struct hu h
    rw [gram_cells] at hl hsize
    have hf' : fs.toList.map (fun f => (f.type, f.offset)) = [(37, 0)] := hf
    have hfl : fs.toList.length = 1 := by have := congrArg List.length hf'; simpa using this
    match hfs : fs.toList, hf', hfl with
    | [f], hf', hfl =>
      simp only [List.map_cons, List.map_nil, List.cons.injEq, Prod.mk.injEq, and_true] at hf'
      have hg := hget 0 f (by
        have : fs.toList[0]? = some f := by rw [hfs]; rfl
        simpa using this)
      have hfsz : fs.size = 1 := by have := congrArg List.length hfs; simpa using this
      have : 0 < xs.length := by rw [hlen, hfsz]; omega
      rw [List.getElem?_eq_getElem this, hf'.1, hf'.2] at hg
      rw [show Tryd.prog.cellsOf 37 = 1 from by kernel_rfl] at hg
      have hcs : ∃ c0, ca = #[c0] := by
        match ca, hsize with
        | ⟨[c0]⟩, _ => exact ⟨c0, rfl⟩
      obtain ⟨c0, rfl⟩ := hcs
      have hcl : (Value.agg #[c0]).cells.toList = [c0] := rfl
      rw [hcl] at hg
      rcases DataW.trod_slice Tryd.underlying37 hg with ⟨e3, _⟩ | ⟨ad, len, cap, elems, rest, m, e4, e3, _, _, hlc, hcm, hel, hk, _⟩
      · simp at e3
        subst e3
        exact ⟨[], none, 0, fun _ => [], rfl, ⟨by simp, by unfold maxLen; omega, fun _ => rfl, fun h => by simp at h, fun i r h => by simp at h, fun i r h => by simp at h, fun i r ad h => by simp at h, fun i r ad h => by simp at h⟩, fun r h => by cases h⟩
      · simp at e3
        subst e3
        have hk' : ∀ i, i < len → ∃ r : Rl × List Value, (r.1.1.size ≤ maxLen ∧ ExIs W W.heap.size r.1.2 r.2 ∧ WfE r.1.2) ∧ ad.block < W.heap.size ∧ W.cell? (ad.add (i * 8)) = some (.string r.1.1) ∧ ∀ j u, r.2[j]? = some u → W.cell? ((ad.add (i * 8)).add (j + 1)) = some u := by
          intro i hi
          have hg := hk i hi
          rw [List.getElem?_eq_getElem (by omega), rule_cells] at hg
          obtain ⟨ci, hc1, hc2⟩ := Option.bind_eq_some_iff.1 hg
          obtain ⟨r, row, rfl, he⟩ := trod_rule hc2
          obtain ⟨hcl, hc3, hc4⟩ := World.cells?_some hc1
          have hb := World.block_lt_of_cell? W _ ((hc4 0 (by omega)).trans (List.getElem?_eq_getElem (by simp)))
          rw [add_block, add_block] at hb
          refine ⟨(r, row), he, hb, (hc4 0 (by omega)).trans rfl, fun j u hu => ?_⟩
          have h8 : row.length = 7 := by simpa using hc3
          rw [hc4 (j + 1) (by have : j < row.length := getElem?_lt hu; omega)]
          exact hu
        obtain ⟨f, hf⟩ := @row_of (Rl × List Value) ⟨((⟨#[]⟩, .mk 0 0 0 0 0 ⟨#[]⟩ []), [])⟩ _ _ hk'
        have hlen' : ((List.range len).map fun i => (f i).1).length = len := by simp
        have hget : ∀ i e, ((List.range len).map fun i => (f i).1)[i]? = some e → i < len ∧ e = (f i).1 := by
          intro i e he
          have hi := getElem?_lt he
          rw [hlen'] at hi
          simp [hi] at he
          exact ⟨hi, he.symm⟩
        refine ⟨(List.range len).map fun i => (f i).1, some ad, cap, fun i => (f i).2, by rw [hlen'], ⟨by rw [hlen']; exact hlc, hcm, fun h => (by cases h), fun h => ⟨ad, rfl, (hf 0 (by rw [hlen'] at h; exact h)).2.1⟩, fun i r hr => ?_, fun i r hr => ?_, fun i r ad' hr hA => ?_, fun i r ad' hr hA j u hu => ?_⟩, fun r hr => ?_⟩
        · obtain ⟨hi, rfl⟩ := hget i r hr; exact (hf i hi).1.1
        · obtain ⟨hi, rfl⟩ := hget i r hr; exact (hf i hi).1.2.1
        · obtain ⟨hi, rfl⟩ := hget i r hr; injection hA with hA; subst hA; exact (hf i hi).2.2.1
        · obtain ⟨hi, rfl⟩ := hget i r hr; injection hA with hA; subst hA; exact (hf i hi).2.2.2 j u hu
        · obtain ⟨i, hi⟩ := List.getElem?_of_mem hr
          obtain ⟨hi', rfl⟩ := hget i r hi
          exact (hf i hi').1.2.2
end Go.Proofs.YtndhbdbfjkmloaaDoor
namespace Go.Proofs.YtndhbdbfjkmloaaDoor
open Go.RowKit

/-! the text -/
/-- how tight a kind holds -/
def lvl (k : Int) : Nat := if k = 6 then 1 else if k = 5 then 2 else if k = 10 ∨ k = 11 then 3 else if k = 7 ∨ k = 8 ∨ k = 9 then 4 else 5
def Ex.kindX : Ex → Int | .mk k _ _ _ _ _ _ => k
/-- within brackets, if it holds less tight than it must -/
def brk (e : Ex) (least : Nat) (s : List UInt8) : List UInt8 := if lvl e.kindX < least then 40 :: (s ++ [41]) else s
/-- the word of all bits -/
def wM : Int := 18446744073709551615
mutual
def txE : Ex → List UInt8
  | .mk k a b c d t ks =>
    if k = 1 then [40, 41]
    else if k = 2 then (if a = wM ∧ b = wM ∧ c = wM ∧ d = wM then [46] else clsAll [a.toNat, b.toNat, c.toNat, d.toNat])
    else if k = 3 then litL t.data.toList
    else if k = 4 then t.data.toList
    else if k = 10 then 38 :: (txL 3 ks).flatten
    else if k = 11 then 33 :: (txL 3 ks).flatten
    else if k = 7 then (txL 4 ks).flatten ++ [42]
    else if k = 8 then (txL 4 ks).flatten ++ [43]
    else if k = 9 then (txL 4 ks).flatten ++ [63]
    else if k = 6 then Lib.join (txL 2 ks) [32, 47, 32]
    else Lib.join (txL 3 ks) [32]
def txL (least : Nat) : List Ex → List (List UInt8)
  | [] => []
  | e :: es => brk e least (txE e) :: txL least es
end

/-! the signs of a text -/
/-- behind blanks and remarks (true: within a remark) -/
def skipL : Bool → List UInt8 → List UInt8
  | _, [] => []
  | false, c :: l => if c = 32 ∨ c = 9 ∨ c = 10 ∨ c = 13 then skipL false l else if c = 35 then skipL true l else c :: l
  | true, c :: l => if c = 10 then skipL false l else skipL true l
def isLD (c : Nat) : Bool := isLet c || isDig c
/-- how many letters and digits are ahead -/
def nameL : List UInt8 → Nat
  | [] => 0
  | c :: l => if isLD c.toNat then nameL l + 1 else 0
def eNil : Ex := .mk 1 0 0 0 0 ⟨#[]⟩ []
def eAny : Ex := .mk 2 wM wM wM wM ⟨#[]⟩ []
def eSet (w : List Nat) : Ex := .mk 2 (w.getD 0 0 : Nat) (w.getD 1 0 : Nat) (w.getD 2 0 : Nat) (w.getD 3 0 : Nat) ⟨#[]⟩ []
def eLit (t : List UInt8) : Ex := .mk 3 0 0 0 0 ⟨t.toArray⟩ []
def eRef (t : List UInt8) : Ex := .mk 4 0 0 0 0 ⟨t.toArray⟩ []
def notL (w : List Nat) : List Nat := w.map fun x => 18446744073709551615 - x
inductive Tok where
  | fin
  | bad
  | nd (e : Ex) (n : Nat)
  | sg (c : Nat) (n : Nat)
/-- what stands ahead -/
def tokL : List UInt8 → Tok
  | [] => .fin
  | c :: r =>
    if c = 39 ∨ c = 34 then
      match unl c.toNat sgU.data.toList (r.length + 1) r with
      | none => .bad
      | some (o, n) => .nd (if o = [] then eNil else eLit o) (n + 1)
    else if c = 91 then
      if bt r 0 = 94 then
        match unc (r.length + 2) (r.drop 1) [0, 0, 0, 0] with
        | none => .bad
        | some (w, n) => .nd (eSet (notL w)) (n + 2)
      else
        match unc (r.length + 2) r [0, 0, 0, 0] with
        | none => .bad
        | some (w, n) => .nd (eSet w) (n + 1)
    else if c = 46 then .nd eAny 1
    else if c = 40 ∨ c = 41 ∨ c = 47 ∨ c = 38 ∨ c = 33 ∨ c = 63 ∨ c = 42 ∨ c = 43 then .sg c.toNat 1
    else if c = 60 ∧ bt r 0 = 45 then .sg 60 2
    else if isLet c.toNat then .nd (eRef ((c :: r).take (nameL (c :: r)))) (nameL (c :: r))
    else .bad
def Tok.isBad : Tok → Bool | .bad => true | _ => false
/-- on behind a sign of n bytes -/
def goL (l : List UInt8) (n : Nat) : List UInt8 := skipL false (l.drop n)
/-- is it a name behind which an arrow comes? -/
def namesL (h : Bool) (l : List UInt8) : Bool := match tokL l with
  | .nd e n => h && (decide (e.kindX = 4) && decide ((goL l n).take 2 = [60, 45]))
  | _ => false
/-- may an expression begin here? -/
def begL (h : Bool) (l : List UInt8) : Bool := match tokL l with
  | .nd _ _ => !namesL h l
  | .sg c _ => decide (c = 40 ∨ c = 38 ∨ c = 33)
  | _ => false

/-! reading -/
/-- what is read, and what is left; or where it can't be read -/
inductive Rs where
  | ok (e : Ex) (l : List UInt8)
  | no (l : List UInt8)
inductive Pj where
  | alt
  | altL (acc : List Ex)
  | seq
  | seqL (acc : List Ex)
  | pre
  | post (e : Ex)
  | pri
def oneOr (k : Int) : List Ex → Ex
  | [e] => e
  | acc => .mk k 0 0 0 0 ⟨#[]⟩ acc
def thenGo (l : List UInt8) (n : Nat) (k : List UInt8 → Option Rs) : Option Rs := if (tokL (goL l n)).isBad = true then some (.no (goL l n)) else k (goL l n)
def bindR : Option Rs → (Ex → List UInt8 → Option Rs) → Option Rs
  | none, _ => none
  | some (.no l), _ => some (.no l)
  | some (.ok e l), k => k e l
def postK (c : Nat) : Int := if c = 63 then 9 else if c = 42 then 7 else 8
def rdJ (h : Bool) : Nat → Pj → List UInt8 → Option Rs
  | 0, _, _ => none
  | f + 1, .alt, l => bindR (rdJ h f .seq l) fun e l1 => rdJ h f (.altL [e]) l1
  | f + 1, .altL acc, l => match tokL l with
    | .sg c n => if c = 47 then thenGo l n fun l1 => bindR (rdJ h f .seq l1) fun e l2 => rdJ h f (.altL (acc ++ [e])) l2 else some (.ok (oneOr 6 acc) l)
    | _ => some (.ok (oneOr 6 acc) l)
  | f + 1, .seq, l => bindR (rdJ h f .pre l) fun e l1 => rdJ h f (.seqL [e]) l1
  | f + 1, .seqL acc, l => if begL h l = true then bindR (rdJ h f .pre l) fun e l1 => rdJ h f (.seqL (acc ++ [e])) l1 else some (.ok (oneOr 5 acc) l)
  | f + 1, .pre, l => match tokL l with
    | .sg c n => if c = 38 ∨ c = 33 then thenGo l n fun l1 => bindR (rdJ h f .pre l1) fun e l2 => some (.ok (.mk (if c = 38 then 10 else 11) 0 0 0 0 ⟨#[]⟩ [e]) l2) else bindR (rdJ h f .pri l) fun e l1 => rdJ h f (.post e) l1
    | _ => bindR (rdJ h f .pri l) fun e l1 => rdJ h f (.post e) l1
  | f + 1, .post e, l => match tokL l with
    | .sg c n => if c = 63 ∨ c = 42 ∨ c = 43 then thenGo l n fun l1 => rdJ h f (.post (.mk (postK c) 0 0 0 0 ⟨#[]⟩ [e])) l1 else some (.ok e l)
    | _ => some (.ok e l)
  | f + 1, .pri, l => if begL h l = true then
      match tokL l with
      | .nd e n => thenGo l n fun l1 => some (.ok e l1)
      | .sg c n => if c = 40 then thenGo l n fun l1 =>
          match tokL l1 with
          | .sg c1 n1 => if c1 = 41 then thenGo l1 n1 fun l2 => some (.ok eNil l2) else bindR (rdJ h f .alt l1) fun e l2 => match tokL l2 with
            | .sg c2 n2 => if c2 = 41 then thenGo l2 n2 fun l3 => some (.ok e l3) else some (.no l2)
            | _ => some (.no l2)
          | _ => bindR (rdJ h f .alt l1) fun e l2 => match tokL l2 with
            | .sg c2 n2 => if c2 = 41 then thenGo l2 n2 fun l3 => some (.ok e l3) else some (.no l2)
            | _ => some (.no l2)
        else some (.no l)
      | _ => some (.no l)
    else some (.no l)

theorem bindR_mono {x x' : Option Rs} {k k' : Ex → List UInt8 → Option Rs} (hx : ∀ R, x = some R → x' = some R) (hk : ∀ e l R, k e l = some R → k' e l = some R) {R : Rs} (h : bindR x k = some R) : bindR x' k' = some R := by
  cases x with
  | none => cases h
  | some y =>
    rw [hx y rfl]
    cases y with
    | no l => exact h
    | ok e l => exact hk e l R h
theorem thenGo_mono {l : List UInt8} {n : Nat} {k k' : List UInt8 → Option Rs} (hk : ∀ l R, k l = some R → k' l = some R) {R : Rs} (h : thenGo l n k = some R) : thenGo l n k' = some R := by
  unfold thenGo at h ⊢
  split at h
  · rw [if_pos (by assumption)]; exact h
  · rw [if_neg (by assumption)]; exact hk _ _ h
theorem rdJ_succ (h : Bool) : ∀ (f : Nat) (j : Pj) (l : List UInt8) (R : Rs), rdJ h f j l = some R → rdJ h (f + 1) j l = some R := by
  intro f
  induction f with
  | zero => intro j l R hR; cases hR
  | succ f ih =>
    intro j l R hR
    cases j with
    | alt => rw [rdJ] at hR ⊢; exact bindR_mono (ih _ _) (fun _ _ => ih _ _) hR
    | altL acc =>
      rw [rdJ] at hR ⊢
      cases ht : tokL l with
      | sg c n =>
        rw [ht] at hR
        simp only at hR ⊢
        split at hR
        · rw [if_pos (by assumption)]
          exact thenGo_mono (fun _ _ h => bindR_mono (ih _ _) (fun _ _ => ih _ _) h) hR
        · rw [if_neg (by assumption)]; exact hR
      | _ => rw [ht] at hR; exact hR
    | seq => rw [rdJ] at hR ⊢; exact bindR_mono (ih _ _) (fun _ _ => ih _ _) hR
    | seqL acc =>
      rw [rdJ] at hR ⊢
      split at hR
      · rw [if_pos (by assumption)]; exact bindR_mono (ih _ _) (fun _ _ => ih _ _) hR
      · rw [if_neg (by assumption)]; exact hR
    | pre =>
      rw [rdJ] at hR ⊢
      cases ht : tokL l with
      | sg c n =>
        rw [ht] at hR
        simp only at hR ⊢
        split at hR
        · rw [if_pos (by assumption)]
          exact thenGo_mono (fun _ _ h => bindR_mono (ih _ _) (fun _ _ _ h => h) h) hR
        · rw [if_neg (by assumption)]; exact bindR_mono (ih _ _) (fun _ _ => ih _ _) hR
      | _ => rw [ht] at hR; exact bindR_mono (ih _ _) (fun _ _ => ih _ _) hR
    | post e =>
      rw [rdJ] at hR ⊢
      cases ht : tokL l with
      | sg c n =>
        rw [ht] at hR
        simp only at hR ⊢
        split at hR
        · rw [if_pos (by assumption)]
          exact thenGo_mono (fun _ => ih _ _) hR
        · rw [if_neg (by assumption)]; exact hR
      | _ => rw [ht] at hR; exact hR
    | pri =>
      rw [rdJ] at hR ⊢
      split at hR
      · rw [if_pos (by assumption)]
        cases ht : tokL l with
        | sg c n =>
          rw [ht] at hR
          simp only at hR ⊢
          split at hR
          · rw [if_pos (by assumption)]
            refine thenGo_mono (fun l1 R h => ?_) hR
            cases ht1 : tokL l1 with
            | sg c1 n1 =>
              rw [ht1] at h
              simp only at h ⊢
              split at h
              · rw [if_pos (by assumption)]; exact h
              · rw [if_neg (by assumption)]; exact bindR_mono (ih _ _) (fun _ _ _ h => h) h
            | _ => rw [ht1] at h; exact bindR_mono (ih _ _) (fun _ _ _ h => h) h
          · rw [if_neg (by assumption)]; exact hR
        | _ => rw [ht] at hR; exact hR
      · rw [if_neg (by assumption)]; exact hR
theorem rdJ_le {h : Bool} {f f' : Nat} (hf : f ≤ f') {j : Pj} {l : List UInt8} {R : Rs} (hR : rdJ h f j l = some R) : rdJ h f' j l = some R := by
  induction hf with
  | refl => exact hR
  | step _ ih => exact rdJ_succ h _ _ _ _ ih
/-- it is read so -/
def Rd (h : Bool) (j : Pj) (l : List UInt8) (R : Rs) : Prop := ∃ f, rdJ h f j l = some R
theorem Rd.uniq {h : Bool} {j : Pj} {l : List UInt8} {R R' : Rs} : Rd h j l R → Rd h j l R' → R = R'
  | ⟨f, hf⟩, ⟨f', hf'⟩ => by
    have h1 := rdJ_le (Nat.le_max_left f f') hf
    have h2 := rdJ_le (Nat.le_max_right f f') hf'
    rw [h1] at h2
    exact Option.some.inj h2
end Go.Proofs.YtndhbdbfjkmloaaDoor
namespace Go.Proofs.YtndhbdbfjkmloaaDoor
open Go.RowKit

theorem enc_c (n : Nat) (h : n < 256) : nextN sgC (enc true n) = (n, (enc true n).length) ∧ bt (enc true n) 0 ≠ 93 ∧ bt (enc true n) 0 ≠ 45 ∧ bt (enc true n) 0 ≠ 94 ∧ 0 < (enc true n).length := by
  have h' : ∀ n : Fin 256, nextN sgC (enc true n.val) = (n.val, (enc true n.val).length) ∧ bt (enc true n.val) 0 ≠ 93 ∧ bt (enc true n.val) 0 ≠ 45 ∧ bt (enc true n.val) 0 ≠ 94 ∧ 0 < (enc true n.val).length := by decide +kernel
  exact h' ⟨n, h⟩
theorem unc_step (f : Nat) {l : List UInt8} (acc : List Nat) (hl : l ≠ []) (h93 : bt l 0 ≠ 93) {b n : Nat} (hn : nextN sgC l = (b, n)) (hn0 : n ≠ 0) : unc (f + 1) l acc =
      if 1 < (l.drop n).length ∧ bt (l.drop n) 0 = 45 ∧ bt (l.drop n) 1 ≠ 93 then
        if (nextN sgC (l.drop (n + 1))).2 = 0 ∨ (nextN sgC (l.drop (n + 1))).1 < b then none
        else (unc f (l.drop (n + 1 + (nextN sgC (l.drop (n + 1))).2)) (orW acc (rangeL b ((nextN sgC (l.drop (n + 1))).1 + 1 - b)))).map fun x => (x.1, n + 1 + (nextN sgC (l.drop (n + 1))).2 + x.2)
      else (unc f (l.drop n) (orW acc (rangeL b 1))).map fun x => (x.1, n + x.2) := by
  cases l with
  | nil => exact absurd rfl hl
  | cons x l => rw [unc.eq_def]; dsimp only; rw [if_neg h93, hn]; dsimp only; rw [if_neg hn0]
theorem unc_one (f : Nat) {b : Nat} (hb : b < 256) (t : List UInt8) (ht : bt t 0 ≠ 45) (acc : List Nat) :
    unc (f + 1) (enc true b ++ t) acc = (unc f t (orW acc (rangeL b 1))).map fun x => (x.1, (enc true b).length + x.2) := by
  obtain ⟨h1, h2, h3, _, h5⟩ := enc_c b hb
  have hne : enc true b ≠ [] := fun e => by rw [e] at h5; simp at h5
  have hn : nextN sgC (enc true b ++ t) = (b, (enc true b).length) := by rw [nextN_app (by rw [h1]; simp only; omega) hne, h1]
  rw [unc_step f acc (by simp [hne]) (by rw [bt_app h5]; exact h2) hn (by omega), List.drop_left, if_neg (fun h => ht h.2.1)]
theorem unc_two (f : Nat) {b h : Nat} (hb : b < 256) (hh : h < 256) (hbh : b < h) (t : List UInt8) (acc : List Nat) :
    unc (f + 1) (enc true b ++ 45 :: (enc true h ++ t)) acc = (unc f t (orW acc (rangeL b (h + 1 - b)))).map fun x => (x.1, (enc true b).length + 1 + (enc true h).length + x.2) := by
  obtain ⟨h1, h2, h3, _, h5⟩ := enc_c b hb
  obtain ⟨k1, k2, k3, _, k5⟩ := enc_c h hh
  have hne : enc true b ≠ [] := fun e => by rw [e] at h5; simp at h5
  have kne : enc true h ≠ [] := fun e => by rw [e] at k5; simp at k5
  have hn : nextN sgC (enc true b ++ 45 :: (enc true h ++ t)) = (b, (enc true b).length) := by rw [nextN_app (by rw [h1]; simp only; omega) hne, h1]
  have kn : nextN sgC (enc true h ++ t) = (h, (enc true h).length) := by rw [nextN_app (by rw [k1]; simp only; omega) kne, k1]
  have d1 : (enc true b ++ 45 :: (enc true h ++ t)).drop ((enc true b).length + 1) = enc true h ++ t := by
    rw [← List.drop_drop, List.drop_left]; rfl
  have d2 : (enc true b ++ 45 :: (enc true h ++ t)).drop ((enc true b).length + 1 + (enc true h).length) = t := by
    rw [← List.drop_drop, d1, List.drop_left]
  rw [unc_step f acc (by simp [hne]) (by rw [bt_app h5]; exact h2) hn (by omega), List.drop_left, if_pos, d1, kn]
  · dsimp only
    rw [if_neg (by omega), d2]
  · refine ⟨by simp; omega, rfl, ?_⟩
    have : bt (45 :: (enc true h ++ t)) 1 = bt (enc true h ++ t) 0 := rfl
    rw [this, bt_app k5]
    exact k2

theorem clsT_head (l : List Nat) (more : List UInt8) (k : Nat) (f : Nat) (hf : f ≤ 256) : bt (clsT l k (fstB l f) ++ 93 :: more) 0 ≠ 45 ∧ bt (clsT l k (fstB l f) ++ 93 :: more) 0 ≠ 94 := by
  have e93 : bt (([] : List UInt8) ++ 93 :: more) 0 = 93 := rfl
  cases k with
  | zero => rw [clsT, e93]; decide
  | succ k =>
    rw [clsT]
    split
    · rw [e93]; decide
    · rename_i h
      rcases fstB_is l f hf with ⟨b, e, _, h2, _, _⟩ | ⟨e, _⟩
      · rw [e]
        obtain ⟨_, _, h3, h4, h5⟩ := enc_c b h2
        have : ∀ x y z : List UInt8, bt (enc true b ++ x ++ y ++ z) 0 = bt (enc true b) 0 := fun x y z => by
          rw [List.append_assoc, List.append_assoc, bt_app h5]
        unfold piece
        rw [show (b : Int).toNat = b from rfl, this]
        exact ⟨h3, h4⟩
      · omega

theorem orW_words {l l' : List Nat} (h : Words l) (h' : Words l') : Words (orW l l') := by
  have e : ∀ {a b : Nat}, a < 18446744073709551616 → b < 18446744073709551616 → a ||| b < 18446744073709551616 := fun {a b} ha hb => by
    have := Nat.or_lt_two_pow (n := 64) (x := a) (y := b) (by simpa using ha) (by simpa using hb)
    simpa using this
  intro i
  match i with
  | 0 => exact e (h 0) (h' 0)
  | 1 => exact e (h 1) (h' 1)
  | 2 => exact e (h 2) (h' 2)
  | 3 => exact e (h 3) (h' 3)
  | i + 4 => simp [orW]
theorem rangeL_words (lo n : Nat) : Words (rangeL lo n) := fun i => rangeL_lt lo n i

theorem unc_cls (l : List Nat) (more : List UInt8) : ∀ (k f F : Nat) (acc : List Nat), f ≤ 256 → 257 ≤ k + f → (clsT l k (fstB l f)).length < F → Words acc → acc.length = 4 →
    ∃ o, unc F (clsT l k (fstB l f) ++ 93 :: more) acc = some (o, (clsT l k (fstB l f)).length + 1) ∧ o.length = 4 ∧ Words o ∧ ∀ j, j < 256 → hasN o j = (hasN acc j || (decide (f ≤ j) && hasN l j))
  | 0, f, F, acc, hf, hk, _, _, _ => by omega
  | k + 1, f, F, acc, hf, hk, hF, hw, ha => by
    have hfst := fstB_is l f hf
    obtain ⟨F', rfl⟩ : ∃ F', F = F' + 1 := ⟨F - 1, by omega⟩
    rw [clsT] at hF ⊢
    rcases hfst with ⟨b, e, h1, h2, h3, h4⟩ | ⟨e, h1⟩
    · rw [e] at hF ⊢
      rw [if_neg (by omega)] at hF ⊢
      rw [show (b : Int).toNat = b from rfl] at hF ⊢
      obtain ⟨r1, r2, r3, r4⟩ := runB_is l b (by omega)
      generalize runB l b = h at r1 r2 r3 r4 hF ⊢
      have hd := clsT_head l more k (h + 1) (by omega)
      have ih := fun F acc => unc_cls l more k (h + 1) F acc (by omega) (by omega)
      obtain ⟨_, b2, b3, _, b5⟩ := enc_c b h2
      have hin : ∀ j, j < 256 → (decide (b ≤ j ∧ j < b + (h + 1 - b)) || (decide (h + 1 ≤ j) && hasN l j)) = (decide (f ≤ j) && hasN l j) := fun j hj => by
        rcases Nat.lt_or_ge j b with c1 | c1
        · have a1 : ¬ (b ≤ j ∧ j < b + (h + 1 - b)) := by omega
          have a2 : ¬ (h + 1 ≤ j) := by omega
          rw [decide_eq_false a1, decide_eq_false a2]
          rcases Nat.lt_or_ge j f with c2 | c2
          · have a3 : ¬ (f ≤ j) := by omega
            rw [decide_eq_false a3]; rfl
          · rw [h4 j c2 c1]; simp
        · rcases Nat.lt_or_ge h j with c2 | c2
          · have a1 : ¬ (b ≤ j ∧ j < b + (h + 1 - b)) := by omega
            rw [decide_eq_false a1, decide_eq_true (show h + 1 ≤ j by omega), decide_eq_true (show f ≤ j by omega)]; simp
          · have a1 : b ≤ j ∧ j < b + (h + 1 - b) := by omega
            have a2 : hasN l j = true := by
              rcases Nat.eq_or_lt_of_le c1 with c3 | c3
              · rw [← c3]; exact h3
              · exact r3 j c3 c2
            rw [decide_eq_true a1, a2, decide_eq_true (show f ≤ j by omega)]; simp
      unfold piece at hF ⊢
      by_cases c1 : h = b + 1
      · rw [if_pos c1] at hF ⊢
        obtain ⟨_, k2, k3, _, k5⟩ := enc_c h (by omega)
        simp only [List.length_append] at hF
        obtain ⟨F2, rfl⟩ : ∃ F2, F' = F2 + 1 := ⟨F' - 1, by omega⟩
        obtain ⟨o, ho, h6, h7, h8⟩ := ih F2 (orW (orW acc (rangeL b 1)) (rangeL h 1)) (by omega) (orW_words (orW_words hw (rangeL_words _ _)) (rangeL_words _ _)) rfl
        refine ⟨o, ?_, h6, h7, fun j hj => ?_⟩
        · rw [List.append_assoc, List.append_assoc, unc_one _ h2 _ (by rw [bt_app k5]; exact k3), unc_one _ (by omega) _ hd.1, ho]
          simp only [Option.map_some, List.length_append]
          congr 2
          omega
        · rw [h8 j hj, ← hin j hj, orW_has _ _ hj, orW_has _ _ hj, rangeL_has _ _ (by omega) j hj, rangeL_has _ _ (by omega) j hj]
          rw [Bool.eq_iff_iff]
          simp only [Bool.or_eq_true, Bool.and_eq_true, decide_eq_true_iff]
          constructor
          · rintro (((h9 | h9) | h9) | h9)
            · exact .inl h9
            · exact .inr (.inl (by omega))
            · exact .inr (.inl (by omega))
            · exact .inr (.inr h9)
          · rintro (h9 | h9 | h9)
            · exact .inl (.inl (.inl h9))
            · rcases Nat.lt_or_ge j h with c | c
              · exact .inl (.inl (.inr (by omega)))
              · exact .inl (.inr (by omega))
            · exact .inr h9
      · rw [if_neg c1] at hF ⊢
        by_cases c2 : b < h
        · rw [if_pos c2] at hF ⊢
          simp only [List.length_append, List.length_cons] at hF
          obtain ⟨o, ho, h6, h7, h8⟩ := ih F' (orW acc (rangeL b (h + 1 - b))) (by omega) (orW_words hw (rangeL_words _ _)) rfl
          refine ⟨o, ?_, h6, h7, fun j hj => ?_⟩
          · rw [List.append_assoc, List.append_assoc, List.cons_append, unc_two _ h2 (by omega) c2, ho]
            simp only [Option.map_some, List.length_append, List.length_cons]
            congr 2
            omega
          · rw [h8 j hj, ← hin j hj, orW_has _ _ hj, rangeL_has _ _ (by omega) j hj, Bool.or_assoc]
        · rw [if_neg c2] at hF ⊢
          obtain rfl : h = b := by omega
          simp only [List.append_nil, List.length_append] at hF ⊢
          obtain ⟨o, ho, h6, h7, h8⟩ := ih F' (orW acc (rangeL h 1)) (by omega) (orW_words hw (rangeL_words _ _)) rfl
          refine ⟨o, ?_, h6, h7, fun j hj => ?_⟩
          · rw [List.append_assoc, unc_one _ h2 _ hd.1, ho]
            simp only [Option.map_some]
            congr 2
          · rw [h8 j hj, ← hin j hj, orW_has _ _ hj, rangeL_has _ _ (by omega) j hj, Bool.or_assoc, show h + 1 - h = 1 from by omega]
    · rw [e, if_pos (by omega)]
      refine ⟨acc, ?_, ha, hw, fun j hj => ?_⟩
      · show unc (F' + 1) (93 :: more) acc = _
        rw [unc.eq_def]
        dsimp only
        rw [if_pos (by rfl)]
        rfl
      · rcases Nat.lt_or_ge j f with c | c
        · rw [decide_eq_false (show ¬ f ≤ j by omega)]; simp
        · rw [h1 j c hj]; simp

/-- what was written is read as it was -/
theorem unc_back (l : List Nat) (hl : l.length = 4) (hw : Words l) (more : List UInt8) (F : Nat) (hF : (clsT l 257 (fstB l 0)).length < F) :
    unc F (clsT l 257 (fstB l 0) ++ 93 :: more) [0, 0, 0, 0] = some (l, (clsT l 257 (fstB l 0)).length + 1) := by
  obtain ⟨o, ho, h1, h2, h3⟩ := unc_cls l more 257 0 F [0, 0, 0, 0] (by omega) (by omega) hF (fun i => by
    match i with
    | 0 => simp
    | 1 => simp
    | 2 => simp
    | 3 => simp
    | i + 4 => simp) rfl
  have : o = l := words_eq h1 hl h2 hw fun j hj => by
    rw [h3 j hj]
    have := rangeL_has 0 0 (by omega) j hj
    rw [rangeL] at this
    rw [this, decide_eq_false (by omega)]
    simp
  rw [ho, this]
end Go.Proofs.YtndhbdbfjkmloaaDoor
namespace Go.Proofs.YtndhbdbfjkmloaaDoor
open Go.RowKit

/-- no letter and no digit ahead -/
def Sep (r : List UInt8) : Prop := isLD (bt r 0) = false
/-- neither a blank nor a remark ahead -/
def Solid (l : List UInt8) : Prop := skipL false l = l
theorem solid_cons {c : UInt8} {l : List UInt8} (h : c ≠ 32 ∧ c ≠ 9 ∧ c ≠ 10 ∧ c ≠ 13 ∧ c ≠ 35) : Solid (c :: l) := by
  unfold Solid
  rw [skipL, if_neg (by simp [h]), if_neg h.2.2.2.2]
theorem skip_32 (l : List UInt8) : skipL false (32 :: l) = skipL false l := by rw [skipL, if_pos (.inl rfl)]
theorem solid_of {l : List UInt8} (h : l = [] ∨ ∃ c r, l = c :: r ∧ c ≠ 32 ∧ c ≠ 9 ∧ c ≠ 10 ∧ c ≠ 13 ∧ c ≠ 35) : Solid l := by
  rcases h with rfl | ⟨c, r, rfl, hc⟩
  · rfl
  · exact solid_cons hc
theorem let_not : ∀ n : Fin 256, isLet n.val = true → n.val ≠ 39 ∧ n.val ≠ 34 ∧ n.val ≠ 91 ∧ n.val ≠ 46 ∧ n.val ≠ 40 ∧ n.val ≠ 41 ∧ n.val ≠ 47 ∧ n.val ≠ 38 ∧ n.val ≠ 33 ∧ n.val ≠ 63 ∧ n.val ≠ 42 ∧ n.val ≠ 43 ∧ n.val ≠ 60 ∧ n.val ≠ 32 ∧ n.val ≠ 9 ∧ n.val ≠ 10 ∧ n.val ≠ 13 ∧ n.val ≠ 35 := by decide +kernel
theorem ne_u8 {c d : UInt8} (h : c.toNat ≠ d.toNat) : c ≠ d := fun e => h (by rw [e])
theorem nameL_app {r : List UInt8} (hr : Sep r) : ∀ t : List UInt8, (∀ c ∈ t, isLD c.toNat = true) → nameL (t ++ r) = t.length
  | [], _ => by
    cases r with
    | nil => rfl
    | cons c r =>
      have : isLD c.toNat = false := hr
      rw [List.nil_append, nameL, if_neg (by rw [this]; decide)]
      rfl
  | c :: t, h => by
    rw [List.cons_append, nameL, if_pos (h c (.head _)), nameL_app hr t fun d hd => h d (.tail _ hd)]
    rfl
theorem name_parts {t : List UInt8} (h : nameB t = true) : ∃ c r, t = c :: r ∧ isLet c.toNat = true ∧ ∀ d ∈ t, isLD d.toNat = true := by
  unfold nameB at h
  simp only [Bool.and_eq_true, decide_eq_true_iff, List.all_eq_true, List.mem_range] at h
  obtain ⟨⟨h1, h2⟩, h3⟩ := h
  cases t with
  | nil => exact absurd rfl h1
  | cons c r =>
    refine ⟨c, r, rfl, ?_, fun d hd => ?_⟩
    · have := h3 0 (by simp)
      unfold nameAt at this
      simpa [bt] using this
    · obtain ⟨i, hi⟩ := List.getElem?_of_mem hd
      have hil := getElem?_lt hi
      have := h3 i hil
      have hb : bt (c :: r) i = d.toNat := by unfold bt; rw [List.getD_eq_getElem?_getD, hi]; rfl
      unfold nameAt at this
      rw [hb] at this
      unfold isLD
      simp only [Bool.or_eq_true, Bool.and_eq_true] at this ⊢
      rcases this with h | h
      · exact .inl h
      · exact .inr h.2
theorem tok_name {t r : List UInt8} (h : nameB t = true) (hr : Sep r) : tokL (t ++ r) = .nd (eRef t) t.length ∧ Solid (t ++ r) := by
  obtain ⟨c, t', rfl, hc, hall⟩ := name_parts h
  have hn := let_not ⟨c.toNat, c.toNat_lt⟩ hc
  have hne : ∀ d : UInt8, c.toNat ≠ d.toNat → c ≠ d := fun d => ne_u8
  obtain ⟨n1, n2, n3, n4, n5, n6, n7, n8, n9, n10, n11, n12, n13, n14, n15, n16, n17, n18⟩ := hn
  have m1 := hne 39 n1; have m2 := hne 34 n2; have m3 := hne 91 n3; have m4 := hne 46 n4; have m5 := hne 40 n5; have m6 := hne 41 n6; have m7 := hne 47 n7; have m8 := hne 38 n8; have m9 := hne 33 n9; have m10 := hne 63 n10; have m11 := hne 42 n11; have m12 := hne 43 n12; have m13 := hne 60 n13
  have m14 := hne 32 n14; have m15 := hne 9 n15; have m16 := hne 10 n16; have m17 := hne 13 n17; have m18 := hne 35 n18
  have hl := nameL_app hr (c :: t') hall
  refine ⟨?_, solid_cons ⟨m14, m15, m16, m17, m18⟩⟩
  rw [List.cons_append] at hl ⊢
  rw [tokL, if_neg (by simp [m1, m2]), if_neg m3, if_neg m4, if_neg (by simp [m5, m6, m7, m8, m9, m10, m11, m12]), if_neg (by simp [m13]), if_pos hc, hl]
  rw [← List.cons_append, List.take_left]
theorem tok_lit (s r : List UInt8) : tokL (litL s ++ r) = .nd (if s = [] then eNil else eLit s) (litL s).length ∧ Solid (litL s ++ r) := by
  have e : litL s ++ r = 39 :: (encAll false s ++ 39 :: r) := by unfold litL; simp
  rw [e]
  refine ⟨?_, solid_cons (by decide)⟩
  rw [tokL, if_pos (.inl rfl), show (39 : UInt8).toNat = 39 from rfl, unl_enc r s _ (by simp; omega)]
  simp only
  congr 1
  unfold litL
  simp
theorem tok_cls {w : List Nat} (hl : w.length = 4) (hw : Words w) (r : List UInt8) : tokL (clsAll w ++ r) = .nd (eSet w) (clsAll w).length ∧ Solid (clsAll w ++ r) := by
  have e : clsAll w ++ r = 91 :: (clsT w 257 (fstB w 0) ++ 93 :: r) := by unfold clsAll; simp
  rw [e]
  refine ⟨?_, solid_cons (by decide)⟩
  rw [tokL, if_neg (by decide), if_pos rfl, if_neg (clsT_head w r 257 0 (by omega)).2, unc_back w hl hw r _ (by simp; omega)]
  simp only
  congr 1
  unfold clsAll
  simp
theorem tok_any (r : List UInt8) : tokL (46 :: r) = .nd eAny 1 ∧ Solid (46 :: r) := ⟨by rfl, solid_cons (by decide)⟩
theorem tok_sg {c : UInt8} (hc : c = 40 ∨ c = 41 ∨ c = 47 ∨ c = 38 ∨ c = 33 ∨ c = 63 ∨ c = 42 ∨ c = 43) (r : List UInt8) : tokL (c :: r) = .sg c.toNat 1 ∧ Solid (c :: r) := by
  rcases hc with rfl | rfl | rfl | rfl | rfl | rfl | rfl | rfl
  all_goals exact ⟨by rfl, solid_cons (by decide)⟩

/-- what may follow -/
structure Fol (r : List UInt8) : Prop where
  sep : Sep r
  tok : (tokL (skipL false r)).isBad = false
  na : (skipL false r).take 2 ≠ [60, 45]
def NoPost (l : List UInt8) : Prop := ∀ c n, tokL l = .sg c n → c ≠ 63 ∧ c ≠ 42 ∧ c ≠ 43
def NoSl (l : List UInt8) : Prop := ∀ c n, tokL l = .sg c n → c ≠ 47
theorem sep_nil : Sep [] := (by decide : isLD 0 = false)
theorem sep_32 (l : List UInt8) : Sep (32 :: l) := (by decide : isLD 32 = false)
theorem Fol.nil : Fol [] := ⟨sep_nil, rfl, by decide⟩
theorem Fol.sg {c : UInt8} (hc : c = 40 ∨ c = 41 ∨ c = 47 ∨ c = 38 ∨ c = 33 ∨ c = 63 ∨ c = 42 ∨ c = 43) (r : List UInt8) : Fol (c :: r) := by
  obtain ⟨h1, h2⟩ := tok_sg hc r
  refine ⟨?_, by rw [h2, h1]; rfl, ?_⟩
  · unfold Sep
    show isLD c.toNat = false
    rcases hc with rfl | rfl | rfl | rfl | rfl | rfl | rfl | rfl <;> decide
  · rw [h2]
    intro e
    rw [List.take_succ_cons] at e
    injection e with e _
    rcases hc with rfl | rfl | rfl | rfl | rfl | rfl | rfl | rfl <;> exact absurd e (by decide)
theorem tok_lt (r : List UInt8) : tokL (60 :: 45 :: r) = .sg 60 2 := by rfl
/-- where an expression begins there is no arrow, nor what stands behind one -/
theorem beg_what {h : Bool} {l : List UInt8} (hb : begL h l = true) : (tokL l).isBad = false ∧ l.take 2 ≠ [60, 45] ∧ NoPost l ∧ NoSl l ∧ ∀ c n, tokL l = .sg c n → c ≠ 41 := by
  have key : (∃ e n, tokL l = .nd e n) ∨ ∃ c n, tokL l = .sg c n ∧ (c = 40 ∨ c = 38 ∨ c = 33) := by
    unfold begL at hb
    cases ht : tokL l with
    | nd e n => exact .inl ⟨e, n, rfl⟩
    | sg c n => rw [ht] at hb; exact .inr ⟨c, n, rfl, by simpa using hb⟩
    | fin => rw [ht] at hb; cases hb
    | bad => rw [ht] at hb; cases hb
  refine ⟨?_, fun e => ?_, fun c n hc => ?_, fun c n hc => ?_, fun c n hc => ?_⟩
  · rcases key with ⟨e, n, h⟩ | ⟨c, n, h, _⟩ <;> rw [h] <;> rfl
  · obtain ⟨r, rfl⟩ : ∃ r, l = 60 :: 45 :: r := by
      match l, e with
      | c :: d :: r, e =>
        simp only [List.take_succ_cons, List.take_zero, List.cons.injEq, and_true] at e
        exact ⟨r, by rw [e.1, e.2]⟩
      | [c], e => simp at e
      | [], e => simp at e
    rw [tok_lt] at key
    rcases key with ⟨e, n, h⟩ | ⟨c, n, h, hc⟩
    · cases h
    · injection h with h1 h2
      omega
  all_goals
    rcases key with ⟨e, n, h⟩ | ⟨c', n', h, h'⟩
    · rw [h] at hc; cases hc
    · rw [h] at hc
      injection hc with e1 e2
      omega
theorem beg_sg {h : Bool} {l : List UInt8} {c n : Nat} (ht : tokL l = .sg c n) (hc : c = 40 ∨ c = 38 ∨ c = 33) : begL h l = true := by
  unfold begL
  rw [ht]
  simpa using hc
theorem beg_sg_no {h : Bool} {l : List UInt8} {c n : Nat} (ht : tokL l = .sg c n) (hc : ¬ (c = 40 ∨ c = 38 ∨ c = 33)) : begL h l = false := by
  unfold begL
  rw [ht]
  simpa using hc
theorem beg_nd {h : Bool} {l r p : List UInt8} {e : Ex} (hl : l = p ++ r) (ht : tokL l = .nd e p.length) (hr : Fol r) : begL h l = true := by
  unfold begL namesL
  rw [ht]
  simp only [Bool.not_eq_true']
  have : goL l p.length = skipL false r := by unfold goL; rw [hl, List.drop_left]
  rw [this, decide_eq_false hr.na]
  simp
theorem go_left (p r : List UInt8) : goL (p ++ r) p.length = skipL false r := by unfold goL; rw [List.drop_left]
/-- behind a blank stands what begins an expression -/
theorem Fol.blank {h : Bool} {l : List UInt8} (hs : Solid l) (hb : begL h l = true) : Fol (32 :: l) := by
  have := beg_what hb
  exact ⟨sep_32 _, by rw [skip_32, hs]; exact this.1, by rw [skip_32, hs]; exact this.2.1⟩

/-! steps of reading -/
section
variable {h : Bool} {l l1 l2 : List UInt8} {e : Ex} {R : Rs} {acc : List Ex}
theorem then_ok {n : Nat} {k : List UInt8 → Option Rs} (hb : (tokL (goL l n)).isBad = false) : thenGo l n k = k (goL l n) := by
  unfold thenGo
  rw [if_neg (by rw [hb]; decide)]
theorem Rd.two {j j' : Pj} {l l' : List UInt8} {R R' : Rs} (h1 : Rd h j l R) (h2 : Rd h j' l' R') : ∃ f, rdJ h f j l = some R ∧ rdJ h f j' l' = some R' := by
  obtain ⟨f, hf⟩ := h1
  obtain ⟨f', hf'⟩ := h2
  exact ⟨max f f', rdJ_le (Nat.le_max_left _ _) hf, rdJ_le (Nat.le_max_right _ _) hf'⟩
theorem Rd.alt (h1 : Rd h .seq l (.ok e l1)) (h2 : Rd h (.altL [e]) l1 R) : Rd h .alt l R := by
  obtain ⟨f, a, b⟩ := h1.two h2
  exact ⟨f + 1, by rw [rdJ, a]; exact b⟩
theorem Rd.altMore {n : Nat} (ht : tokL l = .sg 47 n) (hb : (tokL (goL l n)).isBad = false) (h1 : Rd h .seq (goL l n) (.ok e l1)) (h2 : Rd h (.altL (acc ++ [e])) l1 R) : Rd h (.altL acc) l R := by
  obtain ⟨f, a, b⟩ := h1.two h2
  refine ⟨f + 1, ?_⟩
  rw [rdJ, ht]
  simp only [if_true]
  rw [then_ok hb, a]
  exact b
theorem Rd.altEnd (hn : NoSl l) : Rd h (.altL acc) l (.ok (oneOr 6 acc) l) := by
  refine ⟨1, ?_⟩
  rw [rdJ]
  cases ht : tokL l with
  | sg c n => simp only; rw [if_neg (hn c n ht)]
  | _ => rfl
theorem Rd.seq (h1 : Rd h .pre l (.ok e l1)) (h2 : Rd h (.seqL [e]) l1 R) : Rd h .seq l R := by
  obtain ⟨f, a, b⟩ := h1.two h2
  exact ⟨f + 1, by rw [rdJ, a]; exact b⟩
theorem Rd.seqMore (hb : begL h l = true) (h1 : Rd h .pre l (.ok e l1)) (h2 : Rd h (.seqL (acc ++ [e])) l1 R) : Rd h (.seqL acc) l R := by
  obtain ⟨f, a, b⟩ := h1.two h2
  refine ⟨f + 1, ?_⟩
  rw [rdJ, if_pos hb, a]
  exact b
theorem Rd.seqEnd (hb : begL h l = false) : Rd h (.seqL acc) l (.ok (oneOr 5 acc) l) := ⟨1, by rw [rdJ, if_neg (by rw [hb]; decide)]⟩
theorem Rd.preOp {c n : Nat} (ht : tokL l = .sg c n) (hc : c = 38 ∨ c = 33) (hb : (tokL (goL l n)).isBad = false) (h1 : Rd h .pre (goL l n) (.ok e l1)) : Rd h .pre l (.ok (.mk (if c = 38 then 10 else 11) 0 0 0 0 ⟨#[]⟩ [e]) l1) := by
  obtain ⟨f, a⟩ := h1
  refine ⟨f + 1, ?_⟩
  rw [rdJ, ht]
  simp only
  rw [if_pos hc, then_ok hb, a]
  rfl
theorem Rd.prePri (hn : ∀ c n, tokL l = .sg c n → ¬ (c = 38 ∨ c = 33)) (h1 : Rd h .pri l (.ok e l1)) (h2 : Rd h (.post e) l1 R) : Rd h .pre l R := by
  obtain ⟨f, a, b⟩ := h1.two h2
  refine ⟨f + 1, ?_⟩
  rw [rdJ]
  cases ht : tokL l with
  | sg c n => simp only; rw [if_neg (hn c n ht), a]; exact b
  | _ => simp only; rw [a]; exact b
theorem Rd.postOp {c n : Nat} (ht : tokL l = .sg c n) (hc : c = 63 ∨ c = 42 ∨ c = 43) (hb : (tokL (goL l n)).isBad = false) (h1 : Rd h (.post (.mk (postK c) 0 0 0 0 ⟨#[]⟩ [e])) (goL l n) R) : Rd h (.post e) l R := by
  obtain ⟨f, a⟩ := h1
  refine ⟨f + 1, ?_⟩
  rw [rdJ, ht]
  simp only
  rw [if_pos hc, then_ok hb, a]
theorem Rd.postEnd (hn : NoPost l) : Rd h (.post e) l (.ok e l) := by
  refine ⟨1, ?_⟩
  rw [rdJ]
  cases ht : tokL l with
  | sg c n =>
    have := hn c n ht
    simp only
    rw [if_neg (by omega)]
  | _ => rfl
theorem Rd.priNd {n : Nat} (ht : tokL l = .nd e n) (hg : begL h l = true) (hb : (tokL (goL l n)).isBad = false) : Rd h .pri l (.ok e (goL l n)) := by
  refine ⟨1, ?_⟩
  rw [rdJ, if_pos hg, ht]
  simp only
  rw [then_ok hb]
theorem Rd.priNil {n n1 : Nat} (ht : tokL l = .sg 40 n) (h1 : tokL (goL l n) = .sg 41 n1) (hb : (tokL (goL (goL l n) n1)).isBad = false) : Rd h .pri l (.ok eNil (goL (goL l n) n1)) := by
  refine ⟨1, ?_⟩
  rw [rdJ, if_pos (beg_sg ht (.inl rfl)), ht]
  simp only [if_true]
  rw [then_ok (by rw [h1]; rfl), h1]
  simp only [if_true]
  rw [then_ok hb]
theorem Rd.priBr {n n2 : Nat} (ht : tokL l = .sg 40 n) (hb : (tokL (goL l n)).isBad = false) (hn : ∀ c n', tokL (goL l n) = .sg c n' → c ≠ 41) (h1 : Rd h .alt (goL l n) (.ok e l2)) (h2 : tokL l2 = .sg 41 n2) (hb2 : (tokL (goL l2 n2)).isBad = false) : Rd h .pri l (.ok e (goL l2 n2)) := by
  obtain ⟨f, a⟩ := h1
  refine ⟨f + 1, ?_⟩
  rw [rdJ, if_pos (beg_sg ht (.inl rfl)), ht]
  simp only [if_true]
  rw [then_ok hb]
  have fin : (bindR (rdJ h f .alt (goL l n)) fun e l2 => match tokL l2 with
            | .sg c2 n2 => if c2 = 41 then thenGo l2 n2 fun l3 => some (.ok e l3) else some (.no l2)
            | _ => some (.no l2)) = some (.ok e (goL l2 n2)) := by
    rw [a]
    show (match tokL l2 with
            | .sg c2 n2 => if c2 = 41 then thenGo l2 n2 fun l3 => some (.ok e l3) else some (.no l2)
            | _ => some (.no l2)) = _
    rw [h2]
    simp only [if_true]
    rw [then_ok hb2]
  cases hl1 : tokL (goL l n) with
  | sg c1 n1 => simp only; rw [if_neg (hn c1 n1 hl1)]; exact fin
  | _ => exact fin
end
end Go.Proofs.YtndhbdbfjkmloaaDoor
