/- Expressions and grammars that a law builds: lit, ref, of, one. -/
import Derived.Test.YtndhbdbfjkmloaaDoorGrM
namespace Go.Proofs.YtndhbdbfjkmloaaDoor
open Go.RowKit

/-- a literal, a reference, a node of kids -/
def litE (t : ByteArray) : Ex := .mk 3 0 0 0 0 t []
def refE (t : ByteArray) : Ex := .mk 4 0 0 0 0 t []
def ofN (k : Int) (ks : List Ex) : Ex := .mk k 0 0 0 0 ⟨#[]⟩ ks
theorem ExIs.grow {w w' : World} {e : Ex} {cs : List Value} (h : ExIs w w.heap.size e cs) (hb : Below w.heap.size w w') : ExIs w' w'.heap.size e cs := h.keep hb.size fun _ hp => hb.cell hp
theorem GrIs.grow {w w' : World} {g : List Rl} {A : Option Addr} {cp : Nat} {row : Nat → List Value} (h : GrIs w w.heap.size g A cp row) (hb : Below w.heap.size w w') : GrIs w' w'.heap.size g A cp row := h.keep hb.size fun _ hp => hb.cell hp
theorem litE_is (w : World) (t : ByteArray) (ht : t.size ≤ maxLen) : ExIs w w.heap.size (litE t) (exCells 3 0 0 0 0 t none 0 0) := ExIs.leaf w _ 3 0 0 0 0 t ht
theorem refE_is (w : World) (t : ByteArray) (ht : t.size ≤ maxLen) : ExIs w w.heap.size (refE t) (exCells 4 0 0 0 0 t none 0 0) := ExIs.leaf w _ 4 0 0 0 0 t ht
theorem emptyE_is (w : World) : ExIs w w.heap.size (.mk 1 0 0 0 0 ⟨#[]⟩ []) (exCells 1 0 0 0 0 ⟨#[]⟩ none 0 0) := ExIs.leaf w _ 1 0 0 0 0 _ (by decide)
theorem ex_len {w : World} {B : Nat} {e : Ex} {cs : List Value} (h : ExIs w B e cs) : cs.length = 7 := by
  cases h
  rfl
theorem cell_add (w : World) (g i : Nat) : w.cell? ((⟨g, 0, none⟩ : Addr).add i) = w.cell? ⟨g, i, none⟩ := by
  cases i with
  | zero => rfl
  | succ i => simp [Addr.add]
theorem add_at (g i j : Nat) : ((⟨g, 0, none⟩ : Addr).add i).add j = (⟨g, 0, none⟩ : Addr).add (i + j) := by
  cases i with
  | zero => cases j with
    | zero => rfl
    | succ j => simp [Addr.add]
  | succ i => cases j with
    | zero => rfl
    | succ j => simp [Addr.add]
/-- a node over a block of its kids' cells -/
theorem ex_node {W : World} {b : Nat} {T : TypeId} {es : List Ex} {rows : List (List Value)} {cs : Array Value} (hl : rows.length = es.length) (h8 : es.length ≤ 100) (hk : ∀ (i : Nat) (e : Ex) (r : List Value), es[i]? = some e → rows[i]? = some r → ExIs W W.heap.size e r) (hb : Blk W b T cs) (hcs : cs.toList = rows.flatten)
    (k : Int) (t : ByteArray) (ht : t.size ≤ maxLen) : ExIs W W.heap.size (.mk k 0 0 0 0 t es) (exCells k 0 0 0 0 t (some ⟨b, 0, none⟩) es.length es.length) := by
  refine .mk k 0 0 0 0 t es (some ⟨b, 0, none⟩) es.length (fun i => rows.getD i []) ht (Nat.le_refl _) (by unfold maxLen; omega) (fun h => by cases h) (fun _ => ⟨_, rfl, hb.lt⟩) (fun i e he => ?_) (fun i e ad he hA j u hu => ?_)
  · have hi : i < rows.length := by rw [hl]; exact getElem?_lt he
    rw [List.getD_eq_getElem?_getD, List.getElem?_eq_getElem hi, Option.getD_some]
    exact hk i e _ he (List.getElem?_eq_getElem hi)
  · injection hA with hA
    subst hA
    have hi : i < rows.length := by rw [hl]; exact getElem?_lt he
    rw [List.getD_eq_getElem?_getD, List.getElem?_eq_getElem hi, Option.getD_some] at hu
    rw [add_at, cell_add, hb.cell, ← Array.getElem?_toList, hcs]
    have hlen : ∀ r ∈ rows, r.length = 7 := fun r hr => by
      obtain ⟨q, hq⟩ := List.getElem?_of_mem hr
      have hq' : q < es.length := by rw [← hl]; exact getElem?_lt hq
      exact ex_len (hk q _ r (List.getElem?_eq_getElem hq') hq)
    have flat : ∀ (rows : List (List Value)) (i : Nat) (r : List Value), (∀ r ∈ rows, r.length = 7) → rows[i]? = some r → ∀ j u, r[j]? = some u → rows.flatten[i * 7 + j]? = some u := by
      intro rows
      induction rows with
      | nil => intro i r _ h; simp at h
      | cons x rows ih =>
        intro i r h7 h j u hu
        rw [List.flatten_cons]
        have hx := h7 x (by simp)
        cases i with
        | zero =>
          simp only [List.getElem?_cons_zero, Option.some.injEq] at h
          subst h
          rw [Nat.zero_mul, Nat.zero_add, List.getElem?_append_left (getElem?_lt hu)]
          exact hu
        | succ i =>
          rw [List.getElem?_cons_succ] at h
          rw [List.getElem?_append_right (by omega), hx, show (i + 1) * 7 + j - 7 = i * 7 + j by omega]
          exact ih i r (fun r hr => h7 r (by simp [hr])) h j u hu
    exact flat rows i _ hlen (List.getElem?_eq_getElem hi) j u hu
theorem ex_one {W : World} {b : Nat} {T : TypeId} {e : Ex} {r : List Value} {cs : Array Value} (h : ExIs W W.heap.size e r) (hb : Blk W b T cs) (hcs : cs.toList = r) (k : Int) : ExIs W W.heap.size (ofN k [e]) (exCells k 0 0 0 0 ⟨#[]⟩ (some ⟨b, 0, none⟩) 1 1) :=
  ex_node (es := [e]) (rows := [r]) rfl (by simp) (fun i e' r' he hr => by
    match i, he, hr with
    | 0, he, hr => simp at he hr; subst he hr; exact h) hb (by simp [hcs]) k _ (by decide)
theorem ex_two {W : World} {b : Nat} {T : TypeId} {e f : Ex} {r q : List Value} {cs : Array Value} (h : ExIs W W.heap.size e r) (h' : ExIs W W.heap.size f q) (hb : Blk W b T cs) (hcs : cs.toList = r ++ q) (k : Int) : ExIs W W.heap.size (ofN k [e, f]) (exCells k 0 0 0 0 ⟨#[]⟩ (some ⟨b, 0, none⟩) 2 2) :=
  ex_node (es := [e, f]) (rows := [r, q]) rfl (by simp) (fun i e' r' he hr => by
    match i, he, hr with
    | 0, he, hr => simp at he hr; subst he hr; exact h
    | 1, he, hr => simp at he hr; subst he hr; exact h') hb (by simp [hcs]) k _ (by decide)
/-- a grammar of one rule -/
theorem gr_one {W : World} {b : Nat} {T : TypeId} {e : Ex} {r : List Value} {cs : Array Value} {nm : ByteArray} (hn : nm.size ≤ maxLen) (h : ExIs W W.heap.size e r) (hb : Blk W b T cs) (hcs : cs.toList = .string nm :: r) : GrIs W W.heap.size [(nm, e)] (some ⟨b, 0, none⟩) 1 (fun _ => r) := by
  refine ⟨by simp, by unfold maxLen; omega, fun h => (by cases h), fun _ => ⟨_, rfl, hb.lt⟩, fun i x hx => ?_, fun i x hx => ?_, fun i x ad hx hA => ?_, fun i x ad hx hA j u hu => ?_⟩
  · match i, hx with
    | 0, hx => simp at hx; subst hx; exact hn
  · match i, hx with
    | 0, hx => simp at hx; subst hx; exact h
  · match i, hx with
    | 0, hx =>
      simp at hx; subst hx; injection hA with hA; subst hA
      rw [Nat.zero_mul, cell_add, hb.cell, ← Array.getElem?_toList, hcs]; rfl
  · match i, hx with
    | 0, hx =>
      simp at hx; subst hx; injection hA with hA; subst hA
      rw [Nat.zero_mul, add_at, cell_add, hb.cell, ← Array.getElem?_toList, hcs, Nat.zero_add, List.getElem?_cons_succ]; exact hu

def nameA : ByteArray := ⟨#[97]⟩
end Go.Proofs.YtndhbdbfjkmloaaDoor
