/- Grammars in memory; a kid, a rule, with all its cells. -/
import Derived.Test.YtndhbdbfjkmloaaDoorEx3
import Derived.Test.YtndhbdbfjkmloaaDoorStr1
import Derived.Test.YtndhbdbfjkmloaaDoorEx5
namespace Go.Proofs.YtndhbdbfjkmloaaDoor
open Go.RowKit

/-- the cells of an expression at p, as a walk spells them -/
structure Seven (w : World) (p : Addr) (k a b c d : Int) (t : ByteArray) (A : Option Addr) (n cp : Nat) : Prop where
  c0 : w.cell? p = some (.int .i64 k)
  c1 : w.cell? ⟨p.block, p.off + 1, none⟩ = some (.int .u64 a)
  c2 : w.cell? ⟨p.block, p.off + 2, none⟩ = some (.int .u64 b)
  c3 : w.cell? ⟨p.block, p.off + 3, none⟩ = some (.int .u64 c)
  c4 : w.cell? ⟨p.block, p.off + 4, none⟩ = some (.int .u64 d)
  c5 : w.cell? ⟨p.block, p.off + 5, none⟩ = some (.string t)
  c6 : w.cell? ⟨p.block, p.off + 6, none⟩ = some (.slice A n cp)
theorem Seven.of {w : World} {p : Addr} {k a b c d : Int} {t : ByteArray} {A : Option Addr} {n cp : Nat}
    (h : ∀ j u, (exCells k a b c d t A n cp)[j]? = some u → w.cell? (p.add j) = some u) : Seven w p k a b c d t A n cp :=
  ⟨h 0 _ rfl, h 1 _ rfl, h 2 _ rfl, h 3 _ rfl, h 4 _ rfl, h 5 _ rfl, h 6 _ rfl⟩

section
variable {w : World} {B : Nat} {k a b c d : Int} {t : ByteArray} {ks : List Ex} {cs : List Value} {A : Option Addr} {n cp : Nat}
theorem ExIs.shape (h : ExIs w B (.mk k a b c d t ks) cs) : t.size ≤ maxLen ∧ ∃ A cp, cs = exCells k a b c d t A ks.length cp ∧ ks.length ≤ cp ∧ cp ≤ maxLen ∧ (A = none → cp = 0) := by
  cases h with
  | mk _ _ _ _ _ _ _ A cp row ht hl hm hnone hb hr hc => exact ⟨ht, A, cp, rfl, hl, hm, hnone⟩
theorem ExIs.len (h : ExIs w B (.mk k a b c d t ks) (exCells k a b c d t A n cp)) : n = ks.length ∧ t.size ≤ maxLen ∧ n ≤ cp ∧ cp ≤ maxLen ∧ (A = none → cp = 0) := by
  obtain ⟨h1, A', cp', e, h2, h3, h4⟩ := h.shape
  simp only [exCells, List.cons.injEq, Value.slice.injEq, true_and, and_true] at e
  obtain ⟨rfl, rfl, rfl⟩ := e
  exact ⟨rfl, h1, h2, h3, h4⟩
theorem ExIs.kid (h : ExIs w B (.mk k a b c d t ks) (exCells k a b c d t A n cp)) {j : Nat} (hj : j < ks.length) :
    ∃ (ad : Addr) (k' a' b' c' d' : Int) (t' : ByteArray) (ks' : List Ex) (A' : Option Addr) (cp' : Nat), A = some ad ∧ ad.block < B ∧ ks[j]? = some (.mk k' a' b' c' d' t' ks') ∧
      ExIs w B (.mk k' a' b' c' d' t' ks') (exCells k' a' b' c' d' t' A' ks'.length cp') ∧ Seven w (ad.add (j * 7)) k' a' b' c' d' t' A' ks'.length cp' := by
  have hlen := h.len.1
  generalize he : exCells k a b c d t A n cp = cs at h
  cases h with
  | mk _ _ _ _ _ _ _ A0 cp0 row ht hl hm hnone hb hr hc =>
    simp only [exCells, List.cons.injEq, Value.slice.injEq, true_and, and_true] at he
    obtain ⟨rfl, _, rfl⟩ := he
    obtain ⟨ad, rfl, hab⟩ := hb (by omega)
    have hej : ks[j]? = some ks[j] := List.getElem?_eq_getElem hj
    generalize ks[j] = ej at hej
    have hE := hr j ej hej
    have hcc := hc j ej ad hej rfl
    generalize row j = rj at hE hcc
    cases ej with
    | mk k' a' b' c' d' t' ks' =>
    obtain ⟨_, A', cp', rfl, _⟩ := hE.shape
    exact ⟨ad, k', a', b', c', d', t', ks', A', cp', rfl, hab, hej, hE, Seven.of hcc⟩
/-- an expression of one node -/
theorem ExIs.leaf (w : World) (B : Nat) (k a b c d : Int) (t : ByteArray) (ht : t.size ≤ maxLen) : ExIs w B (.mk k a b c d t []) (exCells k a b c d t none 0 0) :=
  .mk k a b c d t [] none 0 (fun _ => []) ht (by simp) (by unfold maxLen; omega) (fun _ => rfl) (fun h => by simp at h) (fun i e h => by simp at h) (fun i e ad h => by simp at h)
end

/-- a rule: its name, its body -/
abbrev Rl := ByteArray × Ex
/-- the rules of a grammar, below block B -/
structure GrIs (w : World) (B : Nat) (g : List Rl) (A : Option Addr) (cp : Nat) (row : Nat → List Value) : Prop where
  le : g.length ≤ cp
  cap : cp ≤ maxLen
  nil : A = none → cp = 0
  lies : 0 < g.length → ∃ ad : Addr, A = some ad ∧ ad.block < B
  small : ∀ (i : Nat) (r : Rl), g[i]? = some r → r.1.size ≤ maxLen
  body : ∀ (i : Nat) (r : Rl), g[i]? = some r → ExIs w B r.2 (row i)
  name : ∀ (i : Nat) (r : Rl) (ad : Addr), g[i]? = some r → A = some ad → w.cell? (ad.add (i * 8)) = some (.string r.1)
  cell : ∀ (i : Nat) (r : Rl) (ad : Addr), g[i]? = some r → A = some ad → ∀ j u, (row i)[j]? = some u → w.cell? ((ad.add (i * 8)).add (j + 1)) = some u

section
variable {w w' : World} {B B' : Nat} {g : List Rl} {A : Option Addr} {cp : Nat} {row : Nat → List Value}
theorem GrIs.keep (h : GrIs w B g A cp row) (hB : B ≤ B') (hk : ∀ p : Addr, p.block < B → w'.cell? p = w.cell? p) : GrIs w' B' g A cp row where
  le := h.le
  cap := h.cap
  nil := h.nil
  lies h0 := by
    obtain ⟨ad, e, h1⟩ := h.lies h0
    exact ⟨ad, e, Nat.lt_of_lt_of_le h1 hB⟩
  small := h.small
  body i r hr := (h.body i r hr).keep hB hk
  name i r ad hr hA := by
    obtain ⟨ad', e', h1⟩ := h.lies (by have := getElem?_lt hr; omega)
    rw [hA] at e'
    injection e' with e'
    subst e'
    rw [hk _ (by rw [add_block]; exact h1)]
    exact h.name i r ad hr hA
  cell i r ad hr hA j u hu := by
    obtain ⟨ad', e', h1⟩ := h.lies (by have := getElem?_lt hr; omega)
    rw [hA] at e'
    injection e' with e'
    subst e'
    rw [hk _ (by rw [add_block, add_block]; exact h1)]
    exact h.cell i r ad hr hA j u hu
theorem GrIs.on (h : GrIs w B g A cp row) (hb : Below B w w') : GrIs w' B g A cp row := h.keep (Nat.le_refl _) fun _ => hb.cell
theorem GrIs.more (h : GrIs w B g A cp row) (hB : B ≤ B') : GrIs w B' g A cp row := h.keep hB fun _ _ => rfl
/-- the cells of a rule at p: its name, and its body's from the next on -/
structure Eight (w : World) (p : Addr) (nm : ByteArray) (k a b c d : Int) (t : ByteArray) (A : Option Addr) (n cp : Nat) : Prop where
  c0 : w.cell? p = some (.string nm)
  c1 : w.cell? ⟨p.block, p.off + 1, none⟩ = some (.int .i64 k)
  c2 : w.cell? ⟨p.block, p.off + 2, none⟩ = some (.int .u64 a)
  c3 : w.cell? ⟨p.block, p.off + 3, none⟩ = some (.int .u64 b)
  c4 : w.cell? ⟨p.block, p.off + 4, none⟩ = some (.int .u64 c)
  c5 : w.cell? ⟨p.block, p.off + 5, none⟩ = some (.int .u64 d)
  c6 : w.cell? ⟨p.block, p.off + 6, none⟩ = some (.string t)
  c7 : w.cell? ⟨p.block, p.off + 7, none⟩ = some (.slice A n cp)
theorem GrIs.rule (h : GrIs w B g A cp row) {j : Nat} (hj : j < g.length) :
    ∃ (ad : Addr) (nm : ByteArray) (k' a' b' c' d' : Int) (t' : ByteArray) (ks' : List Ex) (A' : Option Addr) (cp' : Nat), A = some ad ∧ ad.block < B ∧ g[j]? = some (nm, .mk k' a' b' c' d' t' ks') ∧ nm.size ≤ maxLen ∧
      ExIs w B (.mk k' a' b' c' d' t' ks') (exCells k' a' b' c' d' t' A' ks'.length cp') ∧ Eight w (ad.add (j * 8)) nm k' a' b' c' d' t' A' ks'.length cp' := by
  obtain ⟨ad, rfl, hab⟩ := h.lies (by omega)
  have hej : g[j]? = some g[j] := List.getElem?_eq_getElem hj
  generalize g[j] = ej at hej
  obtain ⟨nm, ej⟩ := ej
  have hE := h.body j _ hej
  have hn := h.name j _ ad hej rfl
  have hcc := h.cell j _ ad hej rfl
  have hs := h.small j _ hej
  generalize row j = rj at hE hcc
  cases ej with
  | mk k' a' b' c' d' t' ks' =>
  obtain ⟨_, A', cp', rfl, _⟩ := hE.shape
  exact ⟨ad, nm, k', a', b', c', d', t', ks', A', cp', rfl, hab, hej, hs, hE, hn, hcc 0 _ rfl, hcc 1 _ rfl, hcc 2 _ rfl, hcc 3 _ rfl, hcc 4 _ rfl, hcc 5 _ rfl, hcc 6 _ rfl⟩
end

/-- where a name is found from a place on; -1: nowhere -/
def fndFrom : List Rl → List UInt8 → Nat → Int
  | [], _, _ => -1
  | r :: rs, s, i => if r.1.data.toList = s then i else fndFrom rs s (i + 1)
def fnd (g : List Rl) (s : List UInt8) : Int := fndFrom g s 0
theorem fndFrom_le : ∀ (g : List Rl) (s : List UInt8) (i : Nat), -1 ≤ fndFrom g s i ∧ fndFrom g s i < i + g.length
  | [], s, i => by simp [fndFrom]; omega
  | r :: rs, s, i => by
    have := fndFrom_le rs s (i + 1)
    unfold fndFrom
    split
    · simp; omega
    · simp; omega
theorem drop_of {α : Type} {l : List α} {j : Nat} {x : α} (h : l[j]? = some x) : l.drop j = x :: l.drop (j + 1) := by
  have hj := getElem?_lt h
  rw [List.drop_eq_getElem_cons hj]
  rw [List.getElem?_eq_getElem hj] at h
  injection h with h
  rw [h]
theorem toList_eq_iff (a b : ByteArray) : (a.toList == b.toList) = decide (a.data.toList = b.data.toList) := by
  rw [ByteArray.toList_eq, ByteArray.toList_eq]
  by_cases h : a.data.toList = b.data.toList
  · rw [h]; simp
  · simp only [h, decide_false, beq_eq_false_iff_ne, ne_eq, not_false_eq_true]
end Go.Proofs.YtndhbdbfjkmloaaDoor
