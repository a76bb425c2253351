/- mutate.turns: rows of kids, without one of them, with two of them changed. -/
import Derived.Test.YtefechceoeeonaaMuV
namespace Go.Proofs.Ytefechceoeeonaa
open Go.RowKit Go.Maps

theorem kdF_ones {w : World} {B : Nat} {ks : List Ex} {row : Nat → List Value} (h : ∀ (i : Nat) (e : Ex), ks[i]? = some e → ExIs w B e (row i)) : ∀ m, m ≤ ks.length → ∀ u ∈ kdF row m, u.oneCell' = true
  | 0, _, u, hu => by cases hu
  | m + 1, hm, u, hu => by
    rw [kdF, List.mem_append] at hu
    rcases hu with hu | hu
    · exact kdF_ones h m (by omega) u hu
    · exact ex_one' (h m _ (List.getElem?_eq_getElem (by omega))) u hu
theorem kids_reads {w : World} {B : Nat} {k a b c d : Int} {t : ByteArray} {ks : List Ex} {A : Option Addr} {cp : Nat} (h : ExIs w B (.mk k a b c d t ks) (exCells k a b c d t A ks.length cp)) :
    ∃ row : Nat → List Value, Reads w B 7 A ks.length (kdF row ks.length) ∧ ∀ (i : Nat) (e : Ex), ks[i]? = some e → ExIs w B e (row i) := by
  unfold exCells at h
  generalize hcs : ([.int .i64 k, .int .u64 a, .int .u64 b, .int .u64 c, .int .u64 d, .string t, .slice A ks.length cp] : List Value) = cs at h
  cases h with
  | mk _ _ _ _ _ _ _ A2 cp2 row ht hl hm hn hb hr hc =>
    simp at hcs
    obtain ⟨rfl, rfl⟩ := hcs
    have h7 : ∀ i, i < ks.length → (row i).length = 7 := fun i hi => ex_len (hr i _ (List.getElem?_eq_getElem hi))
    refine ⟨row, ⟨kdF_len h7, fun hn0 => ?_⟩, hr⟩
    obtain ⟨ad, hA, hab⟩ := hb hn0
    refine ⟨ad, hA, hab, fun j u hu => ?_⟩
    have hj := getElem?_lt hu
    rw [kdF_len h7] at hj
    have hd : j / 7 < ks.length := by omega
    obtain ⟨v, hv⟩ : ∃ v, (row (j / 7))[j % 7]? = some v := ⟨_, List.getElem?_eq_getElem (by rw [h7 _ hd]; omega)⟩
    have h1 := kdF_get h7 hd hv
    rw [show j / 7 * 7 + j % 7 = j by omega, hu] at h1
    injection h1 with h1
    subst h1
    have h2 := hc _ _ ad (List.getElem?_eq_getElem hd) hA _ _ hv
    rw [add_add', show j / 7 * 7 + j % 7 = j by omega] at h2
    exact h2
theorem kdF_of {rows : Nat → List Value} {n : Nat} {l : List Value} (h7 : ∀ i, i < n → (rows i).length = 7) (hl : l.length = n * 7) (h : ∀ i u, i < n → u < 7 → l[i * 7 + u]? = (rows i)[u]?) : l = kdF rows n := by
  apply List.ext_getElem?
  intro j
  by_cases hj : j < n * 7
  · have hd : j / 7 < n := by omega
    have h1 := h (j / 7) (j % 7) hd (by omega)
    rw [show j / 7 * 7 + j % 7 = j by omega] at h1
    obtain ⟨v, hv⟩ : ∃ v, (rows (j / 7))[j % 7]? = some v := ⟨_, List.getElem?_eq_getElem (by rw [h7 _ hd]; omega)⟩
    have h2 := kdF_get h7 hd hv
    rw [show j / 7 * 7 + j % 7 = j by omega] at h2
    rw [h1, hv, h2]
  · rw [List.getElem?_eq_none (by omega), List.getElem?_eq_none (by rw [kdF_len h7]; omega)]
/-- a node over a block that holds its kids' cells -/
theorem node_row {S : Nat → Prop} {hi g c : Nat} {W : World} {T : TypeId} {cs : Array Value} {ks : List Ex} {rows : Nat → List Value} (k : Int) (hb : Blk W g T cs) (hg : g < hi) (hS : S g) (hc : ks.length ≤ c) (hm : c ≤ maxLen)
    (hk : ∀ (i : Nat) (e : Ex), ks[i]? = some e → ExF S hi W e (rows i)) (ht : cs.toList.take (ks.length * 7) = kdF rows ks.length) : ExF S hi W (ofN k ks) (exCells k 0 0 0 0 ⟨#[]⟩ (some ⟨g, 0, none⟩) ks.length c) := by
  have h7 : ∀ i, i < ks.length → (rows i).length = 7 := fun i hi => (hk i _ (List.getElem?_eq_getElem hi)).len7
  refine ExF.node (by decide) hc hm (fun h => by cases h) (fun _ => ⟨_, rfl, hg, hS⟩) hk fun i e ad he hA j u hu => ?_
  injection hA with hA
  subst hA
  have hi := getElem?_lt he
  have h1 := kdF_get h7 hi hu
  have hj := getElem?_lt hu
  rw [h7 _ hi] at hj
  rw [add_add', cell_add, hb.cell, ← Array.getElem?_toList]
  rw [← ht, List.getElem?_take_of_lt (by omega)] at h1
  exact h1
theorem at_kdF {rows : Nat → List Value} {n i u : Nat} (h7 : ∀ i, i < n → (rows i).length = 7) (hi : i < n) (hu : u < 7) : (kdF rows n)[i * 7 + u]? = (rows i)[u]? := by
  obtain ⟨v, hv⟩ : ∃ v, (rows i)[u]? = some v := ⟨_, List.getElem?_eq_getElem (by rw [h7 _ hi]; omega)⟩
  rw [kdF_get h7 hi hv, hv]
/-- without one -/
theorem kdF_less {rows : Nat → List Value} {n j : Nat} (h7 : ∀ i, i < n → (rows i).length = 7) (hj : j < n) : (kdF rows n).take (j * 7) ++ (kdF rows n).drop ((j + 1) * 7) = kdF (fun i => rows (if i < j then i else i + 1)) (n - 1) := by
  have hl := kdF_len h7
  have hta : ((kdF rows n).take (j * 7)).length = j * 7 := by rw [List.length_take, hl]; omega
  refine kdF_of (fun i hi => ?_) ?_ fun i u hi hu => ?_
  · by_cases hij : i < j
    · simp only [if_pos hij]; exact h7 i (by omega)
    · simp only [if_neg hij]; exact h7 (i + 1) (by omega)
  · rw [List.length_append, hta, List.length_drop, hl]; omega
  · by_cases hij : i < j
    · simp only [if_pos hij]
      rw [List.getElem?_append_left (by rw [hta]; omega), List.getElem?_take_of_lt (by omega)]
      exact at_kdF h7 (by omega) hu
    · simp only [if_neg hij]
      rw [List.getElem?_append_right (by rw [hta]; omega), hta, List.getElem?_drop, show (j + 1) * 7 + (i * 7 + u - j * 7) = (i + 1) * 7 + u by omega]
      exact at_kdF h7 (by omega) hu
theorem erase_at {ks : List Ex} {j i : Nat} {e : Ex} (h : (ks.eraseIdx j)[i]? = some e) : ks[if i < j then i else i + 1]? = some e := by
  rw [List.getElem?_eraseIdx] at h
  split at h
  · rename_i hi; rw [if_pos hi]; exact h
  · rename_i hi; rw [if_neg hi]; exact h
/-- two neighbours changed -/
def swapR (rows : Nat → List Value) (i : Nat) : Nat → List Value := fun q => rows (if q = i then i + 1 else if q = i + 1 then i else q)
theorem put_at {l vs : List Value} {o m : Nat} (h : o + vs.length ≤ l.length) : (l.take o ++ vs ++ l.drop (o + vs.length))[m]? = if m < o then l[m]? else if m < o + vs.length then vs[m - o]? else l[m]? := by
  have hta : (l.take o).length = o := by rw [List.length_take]; omega
  split
  · rw [List.getElem?_append_left (by rw [List.length_append, hta]; omega), List.getElem?_append_left (by rw [hta]; omega), List.getElem?_take_of_lt (by omega)]
  split
  · rw [List.getElem?_append_left (by rw [List.length_append, hta]; omega), List.getElem?_append_right (by rw [hta]; omega), hta]
  · rw [List.getElem?_append_right (by rw [List.length_append, hta]; omega), List.length_append, hta, List.getElem?_drop]
    congr 1
    omega
theorem swap_at {ks : List Ex} {i q : Nat} {e : Ex} (hi : i + 1 < ks.length) (h : (swapK ks i)[q]? = some e) : ks[if q = i then i + 1 else if q = i + 1 then i else q]? = some e := by
  unfold swapK at h
  rw [List.getElem?_set] at h
  split at h
  · rename_i h1
    split at h
    · subst h1
      rw [if_neg (by omega), if_pos rfl]
      rw [List.getD_eq_getElem?_getD, List.getElem?_eq_getElem (by omega), Option.getD_some] at h
      rw [← h]
      exact List.getElem?_eq_getElem _
    · cases h
  · rename_i h1
    rw [List.getElem?_set] at h
    split at h
    · rename_i h2
      split at h
      · subst h2
        rw [if_pos rfl]
        rw [List.getD_eq_getElem?_getD, List.getElem?_eq_getElem (by omega), Option.getD_some] at h
        rw [← h]
        exact List.getElem?_eq_getElem _
      · cases h
    · rename_i h2
      rw [if_neg (by omega), if_neg (by omega)]
      exact h
theorem swapK_len (ks : List Ex) (i : Nat) : (swapK ks i).length = ks.length := by simp [swapK]
/-- the cells of two neighbours are put in each other's place -/
theorem swap_row {l : List Value} {rows : Nat → List Value} {n i : Nat} {r0 r1 : List Value} (h7 : ∀ i, i < n → (rows i).length = 7) (hi : i + 1 < n) (hl : n * 7 ≤ l.length) (ht : l.take (n * 7) = kdF rows n) (h0 : rows i = r0) (h1 : rows (i + 1) = r1) :
    ((l.take (i * 7) ++ r1 ++ l.drop (i * 7 + 7)).take ((i + 1) * 7) ++ r0 ++ (l.take (i * 7) ++ r1 ++ l.drop (i * 7 + 7)).drop ((i + 1) * 7 + 7)).take (n * 7) = kdF (swapR rows i) n := by
  have e0 : r0.length = 7 := by rw [← h0]; exact h7 i (by omega)
  have e1 : r1.length = 7 := by rw [← h1]; exact h7 (i + 1) (by omega)
  have hl1 : (l.take (i * 7) ++ r1 ++ l.drop (i * 7 + 7)).length = l.length := by simp only [List.length_append, List.length_take, List.length_drop, e1]; omega
  have hat : ∀ q u, q < n → u < 7 → l[q * 7 + u]? = (rows q)[u]? := fun q u hq hu => by
    rw [← at_kdF h7 hq hu, ← ht, List.getElem?_take_of_lt (by omega)]
  refine kdF_of (fun q hq => ?_) ?_ fun q u hq hu => ?_
  · unfold swapR
    split
    · exact h7 _ (by omega)
    split
    · exact h7 _ (by omega)
    · exact h7 _ hq
  · rw [List.length_take]
    simp only [List.length_append, List.length_take, List.length_drop, e0, hl1]
    simp only [List.length_append, List.length_take, List.length_drop, e1] at hl1 ⊢
    omega
  · rw [List.getElem?_take_of_lt (by omega)]
    have p1 := put_at (l := l.take (i * 7) ++ r1 ++ l.drop (i * 7 + 7)) (vs := r0) (o := (i + 1) * 7) (m := q * 7 + u) (by rw [hl1, e0]; omega)
    have p2 := put_at (l := l) (vs := r1) (o := i * 7) (m := q * 7 + u) (by rw [e1]; omega)
    rw [e0] at p1
    rw [e1] at p2
    rw [p1, p2]
    unfold swapR
    by_cases hq0 : q = i
    · subst hq0
      rw [if_pos rfl, if_pos (by omega), if_neg (by omega), if_pos (by omega), h1]
      congr 1
      omega
    · by_cases hq1 : q = i + 1
      · subst hq1
        rw [if_neg hq0, if_pos rfl, if_neg (by omega), if_pos (by omega), h0]
        congr 1
        omega
      · rw [if_neg hq0, if_neg hq1, ← hat q u hq hu]
        rcases Nat.lt_or_ge q i with hlt | hge
        · rw [if_pos (by omega), if_pos (by omega)]
        · rw [if_neg (by omega), if_neg (by omega), if_neg (by omega), if_neg (by omega)]
end Go.Proofs.Ytefechceoeeonaa
