/- Rules in rows of one's own: cells, slices.Clone. -/
import Derived.Test.YtkmcnekjimobhaaGF
import Derived.WalkSpells
import Derived.Maps.AppendAt
import Derived.Lib.SmallJoins
namespace Go.Proofs.Ytkmcnekjimobhaa
open Go.RowKit

/-- the cells of rules: a name, then a body's -/
def ruF : List Rl → (Nat → List Value) → Nat → List Value
  | [], _, _ => []
  | r :: g, row, i => .string r.1 :: (row i ++ ruF g row (i + 1))
theorem ruF_len : ∀ (g : List Rl) (row : Nat → List Value) (i : Nat), (∀ j, j < g.length → (row (i + j)).length = 7) → (ruF g row i).length = g.length * 8
  | [], _, _, _ => rfl
  | r :: g, row, i, h => by
    have h0 := h 0 (by simp)
    have h1 := ruF_len g row (i + 1) (fun j hj => by have := h (j + 1) (by simpa using hj); rw [show i + 1 + j = i + (j + 1) by omega]; exact this)
    rw [ruF, List.length_cons, List.length_append, h1]
    simp at h0 ⊢
    omega
theorem ruF_get : ∀ (g : List Rl) (row : Nat → List Value) (i j : Nat) (r : Rl), (∀ j, j < g.length → (row (i + j)).length = 7) → g[j]? = some r → (ruF g row i)[j * 8]? = some (.string r.1) ∧ ∀ u v, (row (i + j))[u]? = some v → (ruF g row i)[j * 8 + (u + 1)]? = some v
  | [], _, _, _, _, _, h => by simp at h
  | r0 :: g, row, i, 0, r, h7, h => by
    simp at h
    subst h
    refine ⟨rfl, fun u v hu => ?_⟩
    have hu' : (row i)[u]? = some v := by simpa using hu
    rw [ruF, Nat.zero_mul, Nat.zero_add, List.getElem?_cons_succ, List.getElem?_append_left (getElem?_lt hu')]
    exact hu'
  | r0 :: g, row, i, j + 1, r, h7, h => by
    have h0 := h7 0 (by simp)
    simp at h0
    obtain ⟨h1, h2⟩ := ruF_get g row (i + 1) j r (fun j hj => by have := h7 (j + 1) (by simpa using hj); rw [show i + 1 + j = i + (j + 1) by omega]; exact this) (by simpa using h)
    refine ⟨?_, fun u v hu => ?_⟩
    · rw [ruF, show (j + 1) * 8 = (j * 8 + 7) + 1 by omega, List.getElem?_cons_succ, List.getElem?_append_right (by omega), h0, Nat.add_sub_cancel]
      exact h1
    · rw [ruF, show (j + 1) * 8 + (u + 1) = (j * 8 + (u + 1) + 7) + 1 by omega, List.getElem?_cons_succ, List.getElem?_append_right (by omega), h0, Nat.add_sub_cancel]
      exact h2 u v (by rw [show i + 1 + j = i + (j + 1) by omega]; exact hu)
theorem ruF_app : ∀ (g : List Rl) (row : Nat → List Value) (i : Nat) (h : List Rl), ruF (g ++ h) row i = ruF g row i ++ ruF h row (i + g.length)
  | [], _, _, _ => rfl
  | r :: g, row, i, h => by
    rw [List.cons_append, ruF, ruF, ruF_app g row (i + 1) h, List.length_cons, List.cons_append, List.append_assoc, show i + 1 + g.length = i + (g.length + 1) by omega]
theorem ruF_same : ∀ (g : List Rl) (row row' : Nat → List Value) (i : Nat), (∀ j, j < g.length → row (i + j) = row' (i + j)) → ruF g row i = ruF g row' i
  | [], _, _, _, _ => rfl
  | r :: g, row, row', i, h => by
    rw [ruF, ruF, ruF_same g row row' (i + 1) (fun j hj => by have := h (j + 1) (by simpa using hj); rw [show i + 1 + j = i + (j + 1) by omega]; exact this)]
    have := h 0 (by simp)
    simp at this
    rw [this]
theorem ruF_one : ∀ (g : List Rl) (row : Nat → List Value) (i : Nat), (∀ j, j < g.length → ∀ u ∈ row (i + j), u.oneCell' = true) → ∀ u ∈ ruF g row i, u.oneCell' = true
  | [], _, _, _, u, h => by cases h
  | r :: g, row, i, h, u, hu => by
    rw [ruF, List.mem_cons, List.mem_append] at hu
    rcases hu with rfl | hu | hu
    · rfl
    · exact h 0 (by simp) u (by simpa using hu)
    · exact ruF_one g row (i + 1) (fun j hj => by have := h (j + 1) (by simpa using hj); rw [show i + 1 + j = i + (j + 1) by omega]; exact this) u hu
theorem ex_one' {w : World} {B : Nat} {e : Ex} {cs : List Value} (h : ExIs w B e cs) : ∀ u ∈ cs, u.oneCell' = true := by
  obtain ⟨k, a, b, c, d, t, A, n, cp, rfl⟩ := e.parts h
  intro u hu
  simp at hu
  rcases hu with rfl | rfl | rfl | rfl | rfl | rfl | rfl <;> rfl
section
variable {w : World} {B : Nat} {g : List Rl} {A : Option Addr} {cp : Nat} {row : Nat → List Value}
theorem GrIs.row7 (h : GrIs w B g A cp row) : ∀ j, j < g.length → (row (0 + j)).length = 7 := fun j hj => by
  rw [Nat.zero_add]
  exact ex_len (h.body j _ (List.getElem?_eq_getElem hj))
/-- the rules' cells can be read in one row -/
theorem GrIs.reads (h : GrIs w B g A cp row) : Reads w B 8 A g.length (ruF g row 0) := by
  refine ⟨ruF_len g row 0 h.row7, fun hn => ?_⟩
  obtain ⟨ad, hA, hb⟩ := h.lies hn
  refine ⟨ad, hA, hb, fun j u hu => ?_⟩
  have hj := getElem?_lt hu
  rw [ruF_len g row 0 h.row7] at hj
  have hq : j / 8 < g.length := by omega
  obtain ⟨h1, h2⟩ := ruF_get g row 0 (j / 8) _ h.row7 (List.getElem?_eq_getElem hq)
  by_cases hr : j % 8 = 0
  · have hj8 : j = j / 8 * 8 := by omega
    rw [hj8] at hu ⊢
    rw [h1] at hu
    injection hu with hu
    subst hu
    exact h.name _ _ ad (List.getElem?_eq_getElem hq) hA
  · have hj8 : j = j / 8 * 8 + ((j % 8 - 1) + 1) := by omega
    have hlen := h.row7 (j / 8) hq
    rw [Nat.zero_add] at hlen
    have hx : (row (j / 8))[j % 8 - 1]? = some ((row (j / 8))[j % 8 - 1]'(by omega)) := List.getElem?_eq_getElem (by omega)
    have h3 := h2 (j % 8 - 1) _ (by rw [Nat.zero_add]; exact hx)
    rw [← hj8, hu] at h3
    injection h3 with h3
    subst h3
    have h4 := h.cell _ _ ad (List.getElem?_eq_getElem hq) hA _ _ hx
    rw [add_add'] at h4
    rw [← h4]
    congr 2
theorem gr_own {base : Nat} {V : Option Addr} {c : Nat} (ho : w.ownsRow base 96 8 (.slice V g.length c) g.length (ruF g row 0)) (hs : ∀ r ∈ g, r.1.size ≤ maxLen) (hb : ∀ (i : Nat) (r : Rl), g[i]? = some r → ExIs w w.heap.size r.2 (row i)) : GrIs w w.heap.size g V c row := by
  have h7 : ∀ j, j < g.length → (row (0 + j)).length = 7 := fun j hj => by rw [Nat.zero_add]; exact ex_len (hb j _ (List.getElem?_eq_getElem hj))
  have hc : g.length ≤ c ∧ c ≤ maxLen ∧ (V = none → c = 0) ∧ (0 < g.length → ∃ ad : Addr, V = some ad ∧ ad.block < w.heap.size) := by
    have hlt := ho.lt
    rcases ho.2 with ⟨h1, h2⟩ | ⟨g1, cap, cur, hv, h3, h4, h5, h6, _⟩
    · injection h1 with e1 e2 e3
      subst e1 e3
      exact ⟨by omega, by unfold maxLen; omega, fun _ => rfl, fun h => by omega⟩
    · injection hv with e1 e2 e3
      subst e1 e3
      exact ⟨h5, h6, fun h => (by cases h), fun _ => ⟨_, rfl, (hlt g1 rfl).2⟩⟩
  have hcell : ∀ (ad : Addr), V = some ad → ∀ j u, (ruF g row 0)[j]? = some u → w.cell? (ad.add j) = some u := fun ad hA j u hu => by
    subst hA
    rcases ho.2 with ⟨h1, _⟩ | ⟨g1, cap, cur, hv, _⟩
    · cases h1
    · injection hv with e1
      injection e1 with e1
      subst e1
      exact ho.cells rfl j u hu
  refine ⟨hc.1, hc.2.1, hc.2.2.1, hc.2.2.2, fun i r hr => hs r (List.mem_of_getElem? hr), hb, fun i r ad hr hA => ?_, fun i r ad hr hA j u hu => ?_⟩
  · exact hcell ad hA _ _ (ruF_get g row 0 i r h7 hr).1
  · rw [add_add']
    exact hcell ad hA _ _ ((ruF_get g row 0 i r h7 hr).2 j u (by rw [Nat.zero_add]; exact hu))
end

theorem rule_info : (Try.prog.info? 96).map (fun i => (i.zero, i.size, i.bytes)) = some (some (.agg #[.string ⟨#[]⟩, .int .i64 0, .int .u64 0, .int .u64 0, .int .u64 0, .int .u64 0, .string ⟨#[]⟩, .slice none 0 0]), 8, 96) := by kernel_rfl
end Go.Proofs.Ytkmcnekjimobhaa
