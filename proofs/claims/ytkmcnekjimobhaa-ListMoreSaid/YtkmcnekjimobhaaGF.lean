/- Grammars in memory; a kid, a rule, with all its cells. -/
import Derived.Test.YtkmcnekjimobhaaGD
import Derived.Test.YtkmcnekjimobhaaGA
import Derived.Test.YtkmcnekjimobhaaGE
namespace Go.Proofs.Ytkmcnekjimobhaa
open Go.RowKit

/-- the cells of an expression at p, as a walk spells them -/
structure Seven (w : World) (p : Addr) (k a b c d : Int) (t : ByteArray) (A : Option Addr) (n cp : Nat) : Prop where
  c0 : w.cell? p = some (.int .i64 k)
  c1 : w.cell? ⟨p.block, p.off + 1, none⟩ = some (.int .u64 a)
  c2 : w.cell? ⟨p.block, p.off + 2, none⟩ = some (.int .u64 b)
  c3 : w.cell? ⟨p.block, p.off + 3, none⟩ = some (.int .u64 c)
  c4 : w.cell? ⟨p.block, p.off + 4, none⟩ = some (.int .u64 d)
  c5 : w.cell? ⟨p.block, p.off + 5, none⟩ = some (.string t)
  c6 : w.cell? ⟨p.block, p.off + 6, none⟩ = some (.slice A n cp)
theorem Seven.of {w : World} {p : Addr} {k a b c d : Int} {t : ByteArray} {A : Option Addr} {n cp : Nat}
    (h : ∀ j u, (exCells k a b c d t A n cp)[j]? = some u → w.cell? (p.add j) = some u) : Seven w p k a b c d t A n cp :=
  ⟨h 0 _ rfl, h 1 _ rfl, h 2 _ rfl, h 3 _ rfl, h 4 _ rfl, h 5 _ rfl, h 6 _ rfl⟩

section
variable {w : World} {B : Nat} {k a b c d : Int} {t : ByteArray} {ks : List Ex} {cs : List Value} {A : Option Addr} {n cp : Nat}
theorem ExIs.shape (h : ExIs w B (.mk k a b c d t ks) cs) : t.size ≤ maxLen ∧ ∃ A cp, cs = exCells k a b c d t A ks.length cp ∧ ks.length ≤ cp ∧ cp ≤ maxLen ∧ (A = none → cp = 0) := by
  cases h with
  | mk _ _ _ _ _ _ _ A cp row ht hl hm hnone hb hr hc => exact ⟨ht, A, cp, rfl, hl, hm, hnone⟩
theorem ExIs.len (h : ExIs w B (.mk k a b c d t ks) (exCells k a b c d t A n cp)) : n = ks.length ∧ t.size ≤ maxLen ∧ n ≤ cp ∧ cp ≤ maxLen ∧ (A = none → cp = 0) := by
  obtain ⟨h1, A', cp', e, h2, h3, h4⟩ := h.shape
  simp only [exCells, List.cons.injEq, Value.slice.injEq, true_and, and_true] at e
  obtain ⟨rfl, rfl, rfl⟩ := e
  exact ⟨rfl, h1, h2, h3, h4⟩
theorem ExIs.kid (h : ExIs w B (.mk k a b c d t ks) (exCells k a b c d t A n cp)) {j : Nat} (hj : j < ks.length) :
    ∃ (ad : Addr) (k' a' b' c' d' : Int) (t' : ByteArray) (ks' : List Ex) (A' : Option Addr) (cp' : Nat), A = some ad ∧ ad.block < B ∧ ks[j]? = some (.mk k' a' b' c' d' t' ks') ∧
      ExIs w B (.mk k' a' b' c' d' t' ks') (exCells k' a' b' c' d' t' A' ks'.length cp') ∧ Seven w (ad.add (j * 7)) k' a' b' c' d' t' A' ks'.length cp' := by
  have hlen := h.len.1
  generalize he : exCells k a b c d t A n cp = cs at h
  cases h with
  | mk _ _ _ _ _ _ _ A0 cp0 row ht hl hm hnone hb hr hc =>
    simp only [exCells, List.cons.injEq, Value.slice.injEq, true_and, and_true] at he
    obtain ⟨rfl, _, rfl⟩ := he
    obtain ⟨ad, rfl, hab⟩ := hb (by omega)
    have hej : ks[j]? = some ks[j] := List.getElem?_eq_getElem hj
    generalize ks[j] = ej at hej
    have hE := hr j ej hej
    have hcc := hc j ej ad hej rfl
    generalize row j = rj at hE hcc
    cases ej with
    | mk k' a' b' c' d' t' ks' =>
    obtain ⟨_, A', cp', rfl, _⟩ := hE.shape
    exact ⟨ad, k', a', b', c', d', t', ks', A', cp', rfl, hab, hej, hE, Seven.of hcc⟩
/-- an expression of one node -/
theorem ExIs.leaf (w : World) (B : Nat) (k a b c d : Int) (t : ByteArray) (ht : t.size ≤ maxLen) : ExIs w B (.mk k a b c d t []) (exCells k a b c d t none 0 0) :=
  .mk k a b c d t [] none 0 (fun _ => []) ht (by simp) (by unfold maxLen; omega) (fun _ => rfl) (fun h => by simp at h) (fun i e h => by simp at h) (fun i e ad h => by simp at h)
end

/-- a rule: its name, its body -/
abbrev Rl := ByteArray × Ex
/-- the rules of a grammar, below block B -/
structure GrIs (w : World) (B : Nat) (g : List Rl) (A : Option Addr) (cp : Nat) (row : Nat → List Value) : Prop where
  le : g.length ≤ cp
  cap : cp ≤ maxLen
  nil : A = none → cp = 0
  lies : 0 < g.length → ∃ ad : Addr, A = some ad ∧ ad.block < B
  small : ∀ (i : Nat) (r : Rl), g[i]? = some r → r.1.size ≤ maxLen
  body : ∀ (i : Nat) (r : Rl), g[i]? = some r → ExIs w B r.2 (row i)
  name : ∀ (i : Nat) (r : Rl) (ad : Addr), g[i]? = some r → A = some ad → w.cell? (ad.add (i * 8)) = some (.string r.1)
  cell : ∀ (i : Nat) (r : Rl) (ad : Addr), g[i]? = some r → A = some ad → ∀ j u, (row i)[j]? = some u → w.cell? ((ad.add (i * 8)).add (j + 1)) = some u

section
variable {w w' : World} {B B' : Nat} {g : List Rl} {A : Option Addr} {cp : Nat} {row : Nat → List Value}
theorem GrIs.keep (h : GrIs w B g A cp row) (hB : B ≤ B') (hk : ∀ p : Addr, p.block < B → w'.cell? p = w.cell? p) : GrIs w' B' g A cp row where
  le := h.le
  cap := h.cap
  nil := h.nil
  lies h0 := by
    obtain ⟨ad, e, h1⟩ := h.lies h0
    exact ⟨ad, e, Nat.lt_of_lt_of_le h1 hB⟩
  small := h.small
  body i r hr := (h.body i r hr).keep hB hk
  name i r ad hr hA := by
    obtain ⟨ad', e', h1⟩ := h.lies (by have := getElem?_lt hr; omega)
    rw [hA] at e'
    injection e' with e'
    subst e'
    rw [hk _ (by rw [add_block]; exact h1)]
    exact h.name i r ad hr hA
  cell i r ad hr hA j u hu := by
    obtain ⟨ad', e', h1⟩ := h.lies (by have := getElem?_lt hr; omega)
    rw [hA] at e'
    injection e' with e'
    subst e'
    rw [hk _ (by rw [add_block, add_block]; exact h1)]
    exact h.cell i r ad hr hA j u hu
theorem GrIs.on (h : GrIs w B g A cp row) (hb : Below B w w') : GrIs w' B g A cp row := h.keep (Nat.le_refl _) fun _ => hb.cell
theorem GrIs.more (h : GrIs w B g A cp row) (hB : B ≤ B') : GrIs w B' g A cp row := h.keep hB fun _ _ => rfl
/-- the cells of a rule at p: its name, and its body's from the next on -/
structure Eight (w : World) (p : Addr) (nm : ByteArray) (k a b c d : Int) (t : ByteArray) (A : Option Addr) (n cp : Nat) : Prop where
  c0 : w.cell? p = some (.string nm)
  c1 : w.cell? ⟨p.block, p.off + 1, none⟩ = some (.int .i64 k)
  c2 : w.cell? ⟨p.block, p.off + 2, none⟩ = some (.int .u64 a)
  c3 : w.cell? ⟨p.block, p.off + 3, none⟩ = some (.int .u64 b)
  c4 : w.cell? ⟨p.block, p.off + 4, none⟩ = some (.int .u64 c)
  c5 : w.cell? ⟨p.block, p.off + 5, none⟩ = some (.int .u64 d)
  c6 : w.cell? ⟨p.block, p.off + 6, none⟩ = some (.string t)
  c7 : w.cell? ⟨p.block, p.off + 7, none⟩ = some (.slice A n cp)
theorem GrIs.rule (h : GrIs w B g A cp row) {j : Nat} (hj : j < g.length) :
    ∃ (ad : Addr) (nm : ByteArray) (k' a' b' c' d' : Int) (t' : ByteArray) (ks' : List Ex) (A' : Option Addr) (cp' : Nat), A = some ad ∧ ad.block < B ∧ g[j]? = some (nm, .mk k' a' b' c' d' t' ks') ∧ nm.size ≤ maxLen ∧
      ExIs w B (.mk k' a' b' c' d' t' ks') (exCells k' a' b' c' d' t' A' ks'.length cp') ∧ Eight w (ad.add (j * 8)) nm k' a' b' c' d' t' A' ks'.length cp' := by
  obtain ⟨ad, rfl, hab⟩ := h.lies (by omega)
  have hej : g[j]? = some g[j] := List.getElem?_eq_getElem hj
  generalize g[j] = ej at hej
  obtain ⟨nm, ej⟩ := ej
  have hE := h.body j _ hej
  have hn := h.name j _ ad hej rfl
  have hcc := h.cell j _ ad hej rfl
  have hs := h.small j _ hej
  generalize row j = rj at hE hcc
  cases ej with
  | mk k' a' b' c' d' t' ks' =>
  obtain ⟨_, A', cp', rfl, _⟩ := hE.shape
  exact ⟨ad, nm, k', a', b', c', d', t', ks', A', cp', rfl, hab, hej, hs, hE, hn, hcc 0 _ rfl, hcc 1 _ rfl, hcc 2 _ rfl, hcc 3 _ rfl, hcc 4 _ rfl, hcc 5 _ rfl, hcc 6 _ rfl⟩
end

/-- where a name is found from a place on; -1: nowhere -/
def fndFrom : List Rl → List UInt8 → Nat → Int
  | [], _, _ => -1
  | r :: rs, s, i => if r.1.data.toList = s then i else fndFrom rs s (i + 1)
def fnd (g : List Rl) (s : List UInt8) : Int := fndFrom g s 0
theorem fndFrom_le : ∀ (g : List Rl) (s : List UInt8) (i : Nat), -1 ≤ fndFrom g s i ∧ fndFrom g s i < i + g.length
  | [], s, i => by simp [fndFrom]; omega
  | r :: rs, s, i => by
    have := fndFrom_le rs s (i + 1)
    unfold fndFrom
    split
    · simp; omega
    · simp; omega
theorem drop_of {α : Type} {l : List α} {j : Nat} {x : α} (h : l[j]? = some x) : l.drop j = x :: l.drop (j + 1) := by
  have hj := getElem?_lt h
  rw [List.drop_eq_getElem_cons hj]
  rw [List.getElem?_eq_getElem hj] at h
  injection h with h
  rw [h]
theorem toList_eq_iff (a b : ByteArray) : (a.toList == b.toList) = decide (a.data.toList = b.data.toList) := by
  rw [ByteArray.toList_eq, ByteArray.toList_eq]
  by_cases h : a.data.toList = b.data.toList
  · rw [h]; simp
  · simp only [h, decide_false, beq_eq_false_iff_ne, ne_eq, not_false_eq_true]
end Go.Proofs.Ytkmcnekjimobhaa

/- What gram.Find answers. -/
namespace Go.Proofs.Ytkmcnekjimobhaa
open Go.RowKit

set_option maxRecDepth 100000 in
theorem find_any {g : List Rl} {A : Option Addr} {cp : Nat} {row : Nat → List Value} {w : World} (h : GrIs w w.heap.size g A cp row) (s : ByteArray) :
    Calls Try.prog 64 #[.agg #[.slice A g.length cp], .string s] w fun e w' => e = .returned (.int .i64 (fnd g s.data.toList)) ∧ Below w.heap.size w w' := by
  have hcap := h.cap
  have hle := h.le
  unfold maxLen at hcap
  have hm : g.length ≤ 9223372036854775807 := by omega
  have H := Lib.hid h
  have HF : Hid (fnd g s.data.toList = fndFrom (g.drop 0) s.data.toList 0) := by exact rfl
  clear h hcap hle
  go_enter Try.func64, Try.ntmps64
  go_wp2
  go_loopw [5, 6, 10] (fun _ _ i wr => ∃ j : Nat, j ≤ g.length ∧ i = .int .i64 j ∧ Hid (fnd g s.data.toList = fndFrom (g.drop j) s.data.toList j) ∧ Below w.heap.size w wr) (fun _ _ i _ => g.length - (intOf i).toNat)
  case atStart => exact ⟨0, by omega, rfl, HF, (by repeat (first | exact Below.refl _ _ | assumption | refine Below.drew ?_ | refine below_drewN ?_ _ | refine Below.alloc ?_ (by first | omega | (simp; omega) | simp) _ | refine Below.setCell ?_ (by first | omega | (simp; omega) | simp) _))⟩
  case round =>
    obtain ⟨j, hj, rfl, HR, hwr⟩ := hrel
    by_cases hjk : j < g.length
    · obtain ⟨ad, nm, k', a', b', c', d', t', ks', A', cp', rfl, hab, hej, hnm, hE, ⟨e0, e1, e2, e3, e4, e5, e6, e7⟩⟩ := (H.out.on hwr).rule hjk
      have hwz := hwr.size
      have HD := Lib.hid (drop_of hej)
      have hq := toList_eq_iff nm s
      clear hE hej
      by_cases hs : nm.data.toList = s.data.toList
      · have HE : Hid (fnd g s.data.toList = (j : Int)) := HR.out.trans (by rw [HD.out, fndFrom, if_pos hs])
        rw [decide_eq_true hs] at hq
        clear hs
        go_wp2
        go_ret
        exact ⟨ret_int HE.out.symm, (by repeat (first | exact Below.refl _ _ | assumption | refine Below.drew ?_ | refine below_drewN ?_ _ | refine Below.alloc ?_ (by first | omega | (simp; omega) | simp) _ | refine Below.setCell ?_ (by first | omega | (simp; omega) | simp) _))⟩
      · have HE : Hid (fnd g s.data.toList = fndFrom (g.drop (j + 1)) s.data.toList (j + 1)) := HR.out.trans (by rw [HD.out, fndFrom, if_neg hs])
        rw [decide_eq_false hs] at hq
        clear hs
        go_wp2
        go_roundw
        case rel => exact ⟨j + 1, by omega, by go_num, HE, (by repeat (first | exact Below.refl _ _ | assumption | refine Below.drew ?_ | refine below_drewN ?_ _ | refine Below.alloc ?_ (by first | omega | (simp; omega) | simp) _ | refine Below.setCell ?_ (by first | omega | (simp; omega) | simp) _))⟩
        case measure => simp [intOf]; omega
    · obtain rfl : j = g.length := by omega
      have HE : Hid (fnd g s.data.toList = -1) := HR.out.trans (by rw [List.drop_length, fndFrom])
      go_wp2
      go_ret
      exact ⟨ret_int HE.out.symm, hwr⟩
end Go.Proofs.Ytkmcnekjimobhaa

/- Expressions and grammars that a law builds: lit, ref, of, one. -/
namespace Go.Proofs.Ytkmcnekjimobhaa
open Go.RowKit

/-- a literal, a reference, a node of kids -/
def litE (t : ByteArray) : Ex := .mk 3 0 0 0 0 t []
def refE (t : ByteArray) : Ex := .mk 4 0 0 0 0 t []
def ofN (k : Int) (ks : List Ex) : Ex := .mk k 0 0 0 0 ⟨#[]⟩ ks
theorem ExIs.grow {w w' : World} {e : Ex} {cs : List Value} (h : ExIs w w.heap.size e cs) (hb : Below w.heap.size w w') : ExIs w' w'.heap.size e cs := h.keep hb.size fun _ hp => hb.cell hp
theorem GrIs.grow {w w' : World} {g : List Rl} {A : Option Addr} {cp : Nat} {row : Nat → List Value} (h : GrIs w w.heap.size g A cp row) (hb : Below w.heap.size w w') : GrIs w' w'.heap.size g A cp row := h.keep hb.size fun _ hp => hb.cell hp
theorem litE_is (w : World) (t : ByteArray) (ht : t.size ≤ maxLen) : ExIs w w.heap.size (litE t) (exCells 3 0 0 0 0 t none 0 0) := ExIs.leaf w _ 3 0 0 0 0 t ht
theorem refE_is (w : World) (t : ByteArray) (ht : t.size ≤ maxLen) : ExIs w w.heap.size (refE t) (exCells 4 0 0 0 0 t none 0 0) := ExIs.leaf w _ 4 0 0 0 0 t ht
theorem emptyE_is (w : World) : ExIs w w.heap.size (.mk 1 0 0 0 0 ⟨#[]⟩ []) (exCells 1 0 0 0 0 ⟨#[]⟩ none 0 0) := ExIs.leaf w _ 1 0 0 0 0 _ (by decide)
theorem ex_len {w : World} {B : Nat} {e : Ex} {cs : List Value} (h : ExIs w B e cs) : cs.length = 7 := by
  cases h
  rfl
theorem cell_add (w : World) (g i : Nat) : w.cell? ((⟨g, 0, none⟩ : Addr).add i) = w.cell? ⟨g, i, none⟩ := by
  cases i with
  | zero => rfl
  | succ i => simp [Addr.add]
theorem add_at (g i j : Nat) : ((⟨g, 0, none⟩ : Addr).add i).add j = (⟨g, 0, none⟩ : Addr).add (i + j) := by
  cases i with
  | zero => cases j with
    | zero => rfl
    | succ j => simp [Addr.add]
  | succ i => cases j with
    | zero => rfl
    | succ j => simp [Addr.add]
/-- a node over a block of its kids' cells -/
theorem ex_node {W : World} {b : Nat} {T : TypeId} {es : List Ex} {rows : List (List Value)} {cs : Array Value} (hl : rows.length = es.length) (h8 : es.length ≤ 100) (hk : ∀ (i : Nat) (e : Ex) (r : List Value), es[i]? = some e → rows[i]? = some r → ExIs W W.heap.size e r) (hb : Blk W b T cs) (hcs : cs.toList = rows.flatten)
    (k : Int) (t : ByteArray) (ht : t.size ≤ maxLen) : ExIs W W.heap.size (.mk k 0 0 0 0 t es) (exCells k 0 0 0 0 t (some ⟨b, 0, none⟩) es.length es.length) := by
  refine .mk k 0 0 0 0 t es (some ⟨b, 0, none⟩) es.length (fun i => rows.getD i []) ht (Nat.le_refl _) (by unfold maxLen; omega) (fun h => by cases h) (fun _ => ⟨_, rfl, hb.lt⟩) (fun i e he => ?_) (fun i e ad he hA j u hu => ?_)
  · have hi : i < rows.length := by rw [hl]; exact getElem?_lt he
    rw [List.getD_eq_getElem?_getD, List.getElem?_eq_getElem hi, Option.getD_some]
    exact hk i e _ he (List.getElem?_eq_getElem hi)
  · injection hA with hA
    subst hA
    have hi : i < rows.length := by rw [hl]; exact getElem?_lt he
    rw [List.getD_eq_getElem?_getD, List.getElem?_eq_getElem hi, Option.getD_some] at hu
    rw [add_at, cell_add, hb.cell, ← Array.getElem?_toList, hcs]
    have hlen : ∀ r ∈ rows, r.length = 7 := fun r hr => by
      obtain ⟨q, hq⟩ := List.getElem?_of_mem hr
      have hq' : q < es.length := by rw [← hl]; exact getElem?_lt hq
      exact ex_len (hk q _ r (List.getElem?_eq_getElem hq') hq)
    have flat : ∀ (rows : List (List Value)) (i : Nat) (r : List Value), (∀ r ∈ rows, r.length = 7) → rows[i]? = some r → ∀ j u, r[j]? = some u → rows.flatten[i * 7 + j]? = some u := by
      intro rows
      induction rows with
      | nil => intro i r _ h; simp at h
      | cons x rows ih =>
        intro i r h7 h j u hu
        rw [List.flatten_cons]
        have hx := h7 x (by simp)
        cases i with
        | zero =>
          simp only [List.getElem?_cons_zero, Option.some.injEq] at h
          subst h
          rw [Nat.zero_mul, Nat.zero_add, List.getElem?_append_left (getElem?_lt hu)]
          exact hu
        | succ i =>
          rw [List.getElem?_cons_succ] at h
          rw [List.getElem?_append_right (by omega), hx, show (i + 1) * 7 + j - 7 = i * 7 + j by omega]
          exact ih i r (fun r hr => h7 r (by simp [hr])) h j u hu
    exact flat rows i _ hlen (List.getElem?_eq_getElem hi) j u hu
theorem ex_one {W : World} {b : Nat} {T : TypeId} {e : Ex} {r : List Value} {cs : Array Value} (h : ExIs W W.heap.size e r) (hb : Blk W b T cs) (hcs : cs.toList = r) (k : Int) : ExIs W W.heap.size (ofN k [e]) (exCells k 0 0 0 0 ⟨#[]⟩ (some ⟨b, 0, none⟩) 1 1) :=
  ex_node (es := [e]) (rows := [r]) rfl (by simp) (fun i e' r' he hr => by
    match i, he, hr with
    | 0, he, hr => simp at he hr; subst he hr; exact h) hb (by simp [hcs]) k _ (by decide)
theorem ex_two {W : World} {b : Nat} {T : TypeId} {e f : Ex} {r q : List Value} {cs : Array Value} (h : ExIs W W.heap.size e r) (h' : ExIs W W.heap.size f q) (hb : Blk W b T cs) (hcs : cs.toList = r ++ q) (k : Int) : ExIs W W.heap.size (ofN k [e, f]) (exCells k 0 0 0 0 ⟨#[]⟩ (some ⟨b, 0, none⟩) 2 2) :=
  ex_node (es := [e, f]) (rows := [r, q]) rfl (by simp) (fun i e' r' he hr => by
    match i, he, hr with
    | 0, he, hr => simp at he hr; subst he hr; exact h
    | 1, he, hr => simp at he hr; subst he hr; exact h') hb (by simp [hcs]) k _ (by decide)
/-- a grammar of one rule -/
theorem gr_one {W : World} {b : Nat} {T : TypeId} {e : Ex} {r : List Value} {cs : Array Value} {nm : ByteArray} (hn : nm.size ≤ maxLen) (h : ExIs W W.heap.size e r) (hb : Blk W b T cs) (hcs : cs.toList = .string nm :: r) : GrIs W W.heap.size [(nm, e)] (some ⟨b, 0, none⟩) 1 (fun _ => r) := by
  refine ⟨by simp, by unfold maxLen; omega, fun h => (by cases h), fun _ => ⟨_, rfl, hb.lt⟩, fun i x hx => ?_, fun i x hx => ?_, fun i x ad hx hA => ?_, fun i x ad hx hA j u hu => ?_⟩
  · match i, hx with
    | 0, hx => simp at hx; subst hx; exact hn
  · match i, hx with
    | 0, hx => simp at hx; subst hx; exact h
  · match i, hx with
    | 0, hx =>
      simp at hx; subst hx; injection hA with hA; subst hA
      rw [Nat.zero_mul, cell_add, hb.cell, ← Array.getElem?_toList, hcs]; rfl
  · match i, hx with
    | 0, hx =>
      simp at hx; subst hx; injection hA with hA; subst hA
      rw [Nat.zero_mul, add_at, cell_add, hb.cell, ← Array.getElem?_toList, hcs, Nat.zero_add, List.getElem?_cons_succ]; exact hu

set_option maxRecDepth 100000 in
theorem lit_b (t : ByteArray) (w : World) : Calls Try.prog 13 #[.string t] w fun e w' => e = .returned (.agg (exCells 3 0 0 0 0 t none 0 0).toArray) ∧ Below w.heap.size w w' := by
  unfold exCells
  go_enter Try.func13, Try.ntmps13
  go_wp2
  exact bodyPost_ret (v := .agg #[.int .i64 3, .int .u64 0, .int .u64 0, .int .u64 0, .int .u64 0, .string t, .slice none 0 0]) (by simp [results, Try.results13, go_sem]) rfl ⟨rfl, (by repeat (first | exact Below.refl _ _ | assumption | refine Below.drew ?_ | refine below_drewN ?_ _ | refine Below.alloc ?_ (by first | omega | (simp; omega) | simp) _ | refine Below.setCell ?_ (by first | omega | (simp; omega) | simp) _))⟩
def nameA : ByteArray := ⟨#[97]⟩
set_option maxRecDepth 100000 in
theorem one_b (e : Ex) (cs : List Value) (w : World) (h : ExIs w w.heap.size e cs) : Calls Try.prog 12 #[.agg cs.toArray] w fun e' w' => ∃ b, e' = .returned (.agg #[.slice (some ⟨b, 0, none⟩) 1 1]) ∧ GrIs w' w'.heap.size [(nameA, e)] (some ⟨b, 0, none⟩) 1 (fun _ => cs) ∧ Below w.heap.size w w' := by
  have HE := Lib.hid h
  obtain ⟨k, a, b, d1, d2, t, A, n, cp, rfl⟩ := e.parts h
  clear h
  go_enter Try.func12, Try.ntmps12
  go_wp2
  exact bodyPost_ret (v := .agg #[.slice (some ⟨w.heap.size + 1 + 1, 0, none⟩) 1 1]) (by simp [results, Try.results12, go_sem]) rfl ⟨w.heap.size + 1 + 1, rfl, gr_one (cs := #[.string nameA, .int .i64 k, .int .u64 a, .int .u64 b, .int .u64 d1, .int .u64 d2, .string t, .slice A n cp]) (by decide) (HE.out.grow (by repeat (first | exact Below.refl _ _ | assumption | refine Below.drew ?_ | refine below_drewN ?_ _ | refine Below.alloc ?_ (by first | omega | (simp; omega) | simp) _ | refine Below.setCell ?_ (by first | omega | (simp; omega) | simp) _))) (blk_at (by simp)) rfl, (by repeat (first | exact Below.refl _ _ | assumption | refine Below.drew ?_ | refine below_drewN ?_ _ | refine Below.alloc ?_ (by first | omega | (simp; omega) | simp) _ | refine Below.setCell ?_ (by first | omega | (simp; omega) | simp) _))⟩
end Go.Proofs.Ytkmcnekjimobhaa

/- How a grammar that came in is opened. -/
namespace Go.Proofs.Ytkmcnekjimobhaa
open Go.ChangeShapes Go.WideShapes Go.ChangeAt Go.RowKit

/-- all numbers of an expression are of their width -/
inductive WfE : Ex → Prop
  | mk (k a b c d : Int) (t : ByteArray) (ks : List Ex) : I64 k → U64 a → U64 b → U64 c → U64 d → (∀ e ∈ ks, WfE e) → WfE (.mk k a b c d t ks)

set_option maxRecDepth 100000 in
theorem trod_exw {H : Type} {enc : TypeId × Value → H} {W : World} : ∀ (fuel : Nat) {cs : List Value} {x : DataW H × List MemPlace},
    DataW.trod enc Try.prog W 0 (fun _ => true) true fuel 37 cs = some x → ∃ e, ExIs W W.heap.size e cs ∧ WfE e := by
  intro fuel
  induction fuel using Nat.strongRecOn with
  | _ fuel ih =>
    intro cs x h
    obtain ⟨u, hu, hf⟩ := Option.map_eq_some_iff.1 ex_fields
    match u, hf with
    | .struct fs, hf =>
      obtain ⟨xs, n, rfl, _, hl, hlen, hget⟩ := DataW.trod_struct hu h
      rw [ex_cells] at hl
      have hf' : fs.toList.map (fun f => (f.type, f.offset)) = [(3, 0), (34, 1), (9, 5), (35, 6)] := hf
      have hfl : fs.toList.length = 4 := by have := congrArg List.length hf'; simpa using this
      have at_ : ∀ (i : Nat) (t o : Nat), [(3, 0), (34, 1), (9, 5), (35, 6)][i]? = some (t, o) → ∃ y, DataW.trod enc Try.prog W 0 (fun _ => true) true n t ((cs.drop o).take (Try.prog.cellsOf t)) = some y := by
        intro i t o hi
        rw [← hf', List.getElem?_map, Option.map_eq_some_iff] at hi
        obtain ⟨f, hf1, hf2⟩ := hi
        have hg := hget i f (by simpa using hf1)
        injection hf2 with e1 e2
        subst e1 e2
        have : i < xs.length := by
          have h3 := getElem?_lt hf1
          rw [hfl] at h3
          have h4 : fs.size = 4 := by simpa using hfl
          rw [hlen, h4]
          exact h3
        rw [List.getElem?_eq_getElem this] at hg
        exact ⟨_, hg⟩
      obtain ⟨y0, h0⟩ := at_ 0 _ _ rfl
      obtain ⟨y1, h1⟩ := at_ 1 _ _ rfl
      obtain ⟨y2, h2⟩ := at_ 2 _ _ rfl
      obtain ⟨y3, h3⟩ := at_ 3 _ _ rfl
      rw [show Try.prog.cellsOf 3 = 1 from by kernel_rfl] at h0
      rw [show Try.prog.cellsOf 34 = 4 from by kernel_rfl] at h1
      rw [show Try.prog.cellsOf 9 = 1 from by kernel_rfl] at h2
      rw [show Try.prog.cellsOf 35 = 1 from by kernel_rfl] at h3
      obtain ⟨k, e0, _, wk⟩ := DataW.trod_int Try.underlying3 h0
      obtain ⟨a, b, c, d, e1, wa, wb, wc, wd⟩ := trod_set Try.underlying34 Try.underlying32 (by kernel_rfl) (by kernel_rfl) h1
      obtain ⟨t, e2, _, wt⟩ := DataW.trod_string Try.underlying9 h2
      have wk' := I64_of_wf wk
      obtain ⟨c0, c1, c2, c3, c4, c5, c6, rfl⟩ := seven_of hl
      simp at e0 e1 e2
      subst e0 e2
      obtain ⟨rfl, rfl, rfl, rfl⟩ := e1
      rcases DataW.trod_slice Try.underlying35 h3 with ⟨e3, _⟩ | ⟨ad, len, cap, elems, rest, m, e4, e3, _, _, hlc, hcm, hel, hk, _⟩
      · simp at e3
        subst e3
        exact ⟨.mk k a b c d t [], .mk k a b c d t [] none 0 (fun _ => []) wt (by simp) (by unfold maxLen; omega) (fun _ => rfl) (fun h => by simp at h) (fun i e h => by simp at h) (fun i e ad h => by simp at h), .mk _ _ _ _ _ _ _ wk' wa wb wc wd (fun e he => by cases he)⟩
      · simp at e3
        subst e3
        have hk' : ∀ i, i < len → ∃ r : Ex × List Value, (ExIs W W.heap.size r.1 r.2 ∧ WfE r.1) ∧ ad.block < W.heap.size ∧ ∀ j u, r.2[j]? = some u → W.cell? ((ad.add (i * 7)).add j) = some u := by
          intro i hi
          have hg := hk i hi
          rw [List.getElem?_eq_getElem (by omega), ex_cells] at hg
          obtain ⟨ci, hc1, hc2⟩ := Option.bind_eq_some_iff.1 hg
          obtain ⟨e, he⟩ := ih m (by omega) hc2
          obtain ⟨_, hc3, hc4⟩ := World.cells?_some hc1
          have hb := World.block_lt_of_cell? W _ ((hc4 0 (by omega)).trans (List.getElem?_eq_getElem (by omega)))
          rw [add_block, add_block] at hb
          refine ⟨(e, ci), he, hb, fun j u hu => ?_⟩
          rw [hc4 j (by have := getElem?_lt hu; simp at this; omega)]
          exact hu
        obtain ⟨f, hf⟩ := @row_of (Ex × List Value) ⟨(.mk 0 0 0 0 0 ⟨#[]⟩ [], [])⟩ _ _ hk'
        have hlen' : ((List.range len).map fun i => (f i).1).length = len := by simp
        have hget : ∀ i e, ((List.range len).map fun i => (f i).1)[i]? = some e → i < len ∧ e = (f i).1 := by
          intro i e he
          have hi := getElem?_lt he
          rw [hlen'] at hi
          simp [hi] at he
          exact ⟨hi, he.symm⟩
        have hx := ExIs.mk (w := W) (B := W.heap.size) k a b c d t ((List.range len).map fun i => (f i).1) (some ad) cap (fun i => (f i).2) wt (by rw [hlen']; exact hlc) hcm (fun h => by cases h)
          (fun h => ⟨ad, rfl, (hf 0 (by rw [hlen'] at h; exact h)).2.1⟩) (fun i e he => by obtain ⟨hi, rfl⟩ := hget i e he; exact (hf i hi).1.1)
          (fun i e ad' he hA j u hu => by obtain ⟨hi, rfl⟩ := hget i e he; injection hA with hA; subst hA; exact (hf i hi).2.2 j u hu)
        rw [hlen'] at hx
        refine ⟨_, hx, .mk _ _ _ _ _ _ _ wk' wa wb wc wd fun e he => ?_⟩
        obtain ⟨i, hi⟩ := List.getElem?_of_mem he
        obtain ⟨hi', rfl⟩ := hget i e hi
        exact (hf i hi').1.2

theorem rule_fields : (Try.prog.underlying 96).map (fun u => match u with | .struct fs => fs.toList.map (fun f => (f.type, f.offset)) | _ => []) = some [(9, 0), (37, 1)] := by kernel_rfl
theorem rule_cells : Try.prog.cellsOf 96 = 8 := by kernel_rfl
theorem gram_fields : (Try.prog.underlying 24).map (fun u => match u with | .struct fs => fs.toList.map (fun f => (f.type, f.offset)) | _ => []) = some [(22, 0)] := by kernel_rfl
theorem gram_cells : Try.prog.cellsOf 24 = 1 := by kernel_rfl

set_option maxRecDepth 100000 in
theorem trod_rule {H : Type} {enc : TypeId × Value → H} {W : World} {fuel : Nat} {cs : List Value} {x : DataW H × List MemPlace}
    (h : DataW.trod enc Try.prog W 0 (fun _ => true) true fuel 96 cs = some x) : ∃ (r : Rl) (row : List Value), cs = .string r.1 :: row ∧ r.1.size ≤ maxLen ∧ ExIs W W.heap.size r.2 row ∧ WfE r.2 := by
  obtain ⟨u, hu, hf⟩ := Option.map_eq_some_iff.1 rule_fields
  match u, hf with
  | .struct fs, hf =>
    obtain ⟨xs, n, rfl, _, hl, hlen, hget⟩ := DataW.trod_struct hu h
    rw [rule_cells] at hl
    have hf' : fs.toList.map (fun f => (f.type, f.offset)) = [(9, 0), (37, 1)] := hf
    have hfl : fs.toList.length = 2 := by have := congrArg List.length hf'; simpa using this
    have at_ : ∀ (i : Nat) (t o : Nat), [(9, 0), (37, 1)][i]? = some (t, o) → ∃ y, DataW.trod enc Try.prog W 0 (fun _ => true) true n t ((cs.drop o).take (Try.prog.cellsOf t)) = some y := by
      intro i t o hi
      rw [← hf', List.getElem?_map, Option.map_eq_some_iff] at hi
      obtain ⟨f, hf1, hf2⟩ := hi
      have hg := hget i f (by simpa using hf1)
      injection hf2 with e1 e2
      subst e1 e2
      have : i < xs.length := by
        have h3 := getElem?_lt hf1
        rw [hfl] at h3
        have h4 : fs.size = 2 := by simpa using hfl
        rw [hlen, h4]
        exact h3
      rw [List.getElem?_eq_getElem this] at hg
      exact ⟨_, hg⟩
    obtain ⟨y0, h0⟩ := at_ 0 _ _ rfl
    obtain ⟨y1, h1⟩ := at_ 1 _ _ rfl
    rw [show Try.prog.cellsOf 9 = 1 from by kernel_rfl] at h0
    rw [ex_cells] at h1
    obtain ⟨s, e0, _, wt⟩ := DataW.trod_string Try.underlying9 h0
    obtain ⟨e, he, hw⟩ := trod_exw _ h1
    obtain ⟨c0, c1, c2, c3, c4, c5, c6, c7, rfl⟩ := eight_of hl
    simp at e0
    subst e0
    exact ⟨(s, e), _, rfl, wt, he, hw⟩
set_option maxRecDepth 100000 in
theorem open_gram {H : Type} {enc : TypeId × Value → H} {W : World} {v : Value} {d : DataW H} {p : List MemPlace} (hv : ∃ cs, v = .agg cs ∧ cs.size = Try.prog.cellsOf 24)
    (h : DataW.Trod enc Try.prog W 0 (fun _ => true) true 24 v d p) :
    ∃ (g : List Rl) (A : Option Addr) (cp : Nat) (row : Nat → List Value), v = .agg #[.slice A g.length cp] ∧ GrIs W W.heap.size g A cp row ∧ ∀ r ∈ g, WfE r.2 := by
  obtain ⟨ca, rfl, hsize⟩ := hv
  obtain ⟨fuel, h⟩ := h
  obtain ⟨u, hu, hf⟩ := Option.map_eq_some_iff.1 gram_fields
  match u, hf with
  | .struct fs, hf =>
    obtain ⟨xs, n, rfl, _, hl, hlen, hget⟩ := DataW.trod_struct hu h
    rw [gram_cells] at hl hsize
    have hf' : fs.toList.map (fun f => (f.type, f.offset)) = [(22, 0)] := hf
    have hfl : fs.toList.length = 1 := by have := congrArg List.length hf'; simpa using this
    match hfs : fs.toList, hf', hfl with
    | [f], hf', hfl =>
      simp only [List.map_cons, List.map_nil, List.cons.injEq, Prod.mk.injEq, and_true] at hf'
      have hg := hget 0 f (by
        have : fs.toList[0]? = some f := by rw [hfs]; rfl
        simpa using this)
      have hfsz : fs.size = 1 := by have := congrArg List.length hfs; simpa using this
      have : 0 < xs.length := by rw [hlen, hfsz]; omega
      rw [List.getElem?_eq_getElem this, hf'.1, hf'.2] at hg
      rw [show Try.prog.cellsOf 22 = 1 from by kernel_rfl] at hg
      have hcs : ∃ c0, ca = #[c0] := by
        match ca, hsize with
        | ⟨[c0]⟩, _ => exact ⟨c0, rfl⟩
      obtain ⟨c0, rfl⟩ := hcs
      have hcl : (Value.agg #[c0]).cells.toList = [c0] := rfl
      rw [hcl] at hg
      rcases DataW.trod_slice Try.underlying22 hg with ⟨e3, _⟩ | ⟨ad, len, cap, elems, rest, m, e4, e3, _, _, hlc, hcm, hel, hk, _⟩
      · simp at e3
        subst e3
        exact ⟨[], none, 0, fun _ => [], rfl, ⟨by simp, by unfold maxLen; omega, fun _ => rfl, fun h => by simp at h, fun i r h => by simp at h, fun i r h => by simp at h, fun i r ad h => by simp at h, fun i r ad h => by simp at h⟩, fun r h => by cases h⟩
      · simp at e3
        subst e3
        have hk' : ∀ i, i < len → ∃ r : Rl × List Value, (r.1.1.size ≤ maxLen ∧ ExIs W W.heap.size r.1.2 r.2 ∧ WfE r.1.2) ∧ ad.block < W.heap.size ∧ W.cell? (ad.add (i * 8)) = some (.string r.1.1) ∧ ∀ j u, r.2[j]? = some u → W.cell? ((ad.add (i * 8)).add (j + 1)) = some u := by
          intro i hi
          have hg := hk i hi
          rw [List.getElem?_eq_getElem (by omega), rule_cells] at hg
          obtain ⟨ci, hc1, hc2⟩ := Option.bind_eq_some_iff.1 hg
          obtain ⟨r, row, rfl, he⟩ := trod_rule hc2
          obtain ⟨hcl, hc3, hc4⟩ := World.cells?_some hc1
          have hb := World.block_lt_of_cell? W _ ((hc4 0 (by omega)).trans (List.getElem?_eq_getElem (by simp)))
          rw [add_block, add_block] at hb
          refine ⟨(r, row), he, hb, (hc4 0 (by omega)).trans rfl, fun j u hu => ?_⟩
          have h8 : row.length = 7 := by simpa using hc3
          rw [hc4 (j + 1) (by have : j < row.length := getElem?_lt hu; omega)]
          exact hu
        obtain ⟨f, hf⟩ := @row_of (Rl × List Value) ⟨((⟨#[]⟩, .mk 0 0 0 0 0 ⟨#[]⟩ []), [])⟩ _ _ hk'
        have hlen' : ((List.range len).map fun i => (f i).1).length = len := by simp
        have hget : ∀ i e, ((List.range len).map fun i => (f i).1)[i]? = some e → i < len ∧ e = (f i).1 := by
          intro i e he
          have hi := getElem?_lt he
          rw [hlen'] at hi
          simp [hi] at he
          exact ⟨hi, he.symm⟩
        refine ⟨(List.range len).map fun i => (f i).1, some ad, cap, fun i => (f i).2, by rw [hlen'], ⟨by rw [hlen']; exact hlc, hcm, fun h => (by cases h), fun h => ⟨ad, rfl, (hf 0 (by rw [hlen'] at h; exact h)).2.1⟩, fun i r hr => ?_, fun i r hr => ?_, fun i r ad' hr hA => ?_, fun i r ad' hr hA j u hu => ?_⟩, fun r hr => ?_⟩
        · obtain ⟨hi, rfl⟩ := hget i r hr; exact (hf i hi).1.1
        · obtain ⟨hi, rfl⟩ := hget i r hr; exact (hf i hi).1.2.1
        · obtain ⟨hi, rfl⟩ := hget i r hr; injection hA with hA; subst hA; exact (hf i hi).2.2.1
        · obtain ⟨hi, rfl⟩ := hget i r hr; injection hA with hA; subst hA; exact (hf i hi).2.2.2 j u hu
        · obtain ⟨i, hi⟩ := List.getElem?_of_mem hr
          obtain ⟨hi', rfl⟩ := hget i r hi
          exact (hf i hi').1.2.2
end Go.Proofs.Ytkmcnekjimobhaa
