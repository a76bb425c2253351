/- Where two lists of texts part: plain; chaffkeep's less. -/
import Derived.Test.YtlamphneimpdlaaDfA
import Derived.Test.YtlamphneimpdlaaLsX
namespace Go.Proofs.Ytlamphneimpdlaa
open Go.RowKit

section
variable {T : List ByteArray} {p q : ByteArray → Bool} {j j' : Nat} {s s' : ByteArray}
theorem part_le (h1 : T[j]? = some s) (h3 : q s = (!p s)) (h2' : ∀ u ∈ T.take j', q u = p u) : j' ≤ j := by
  rcases Nat.lt_or_ge j j' with h | h
  · have hm : s ∈ T.take j' := by
      have hx : (T.take j')[j]? = some s := by rw [List.getElem?_take, if_pos h]; exact h1
      exact List.mem_of_getElem? hx
    have h4 := h2' s hm
    rw [h3] at h4
    cases hp : p s <;> rw [hp] at h4 <;> cases h4
  · exact h
theorem part_one (h1 : T[j]? = some s) (h2 : ∀ u ∈ T.take j, p u = q u) (h3 : q s = (!p s)) (h1' : T[j']? = some s') (h2' : ∀ u ∈ T.take j', q u = p u) (h3' : p s' = (!q s')) : s' = s := by
  have a := part_le h1 h3 h2'
  have b := part_le (p := q) (q := p) h1' h3' h2
  obtain rfl : j = j' := by omega
  rw [h1] at h1'
  injection h1' with h
  exact h.symm
theorem part_filter (T : List ByteArray) (f : ByteArray → Bool) (j : Nat) : T.filter f = (T.take j).filter f ++ (T.drop j).filter f := by rw [← List.filter_append, List.take_append_drop]
theorem part_same (h2 : ∀ u ∈ T.take j, p u = q u) : (T.take j).filter q = (T.take j).filter p := List.filter_congr fun u hu => (h2 u hu).symm
theorem drop_ge {a : List UInt8} (hs : T.Pairwise fun u v => rank a u.data.toList < rank a v.data.toList) (h1 : T[j]? = some s) {x : ByteArray} (hx : x ∈ T.drop j) : rank a s.data.toList ≤ rank a x.data.toList := by
  rw [drop_of h1] at hx
  rcases List.mem_cons.1 hx with rfl | hx
  · exact Nat.le_refl _
  · have h := hs.drop (i := j)
    rw [drop_of h1, List.pairwise_cons] at h
    exact Nat.le_of_lt (h.1 x hx)
theorem part_mem (h1 : T[j]? = some s) : s ∈ T := List.mem_of_getElem? h1
end
theorem filter_eq {T : List ByteArray} {p q : ByteArray → Bool} (h : ∀ u ∈ T, p u = q u) : T.filter p = T.filter q := List.filter_congr h
theorem nothing_least {g h : List Rl} {a : ByteArray} {n : Int} : LookOk g a n ∧ LookOk h a n ↔ LookOk h a n ∧ LookOk g a n := ⟨fun x => ⟨x.2, x.1⟩, fun x => ⟨x.2, x.1⟩⟩
theorem bytesLess_iff : ∀ x y : List UInt8, (Op.bytesLess x y = true) ↔ x < y
  | [], [] => by simp [Op.bytesLess]
  | _ :: _, [] => by simp [Op.bytesLess]
  | [], _ :: _ => by simp [Op.bytesLess]
  | a :: x, b :: y => by
    rw [List.cons_lt_cons_iff, ← bytesLess_iff x y]
    simp [Op.bytesLess]
/-- what less answers -/
def lessB (s t : ByteArray) : Bool := decide (s.size < t.size) || (decide (s.size = t.size) && Op.bytesLess s.data.toList t.data.toList)
theorem less_rank {a : List UInt8} {s t : ByteArray} (hs : OverOk a s.data.toList) (ht : OverOk a t.data.toList) : lessB s t = decide (rank a s.data.toList < rank a t.data.toList) := by
  have h := rank_cmp hs.1 hs.2.2 ht.2.2
  rw [size_list, size_list] at h
  unfold lessB
  rw [Bool.eq_iff_iff, decide_eq_true_iff, h]
  simp [bytesLess_iff]
set_option maxRecDepth 100000 in
theorem less_any (s t : ByteArray) (w : World) : Calls Try.prog 32 #[.string s, .string t] w fun e w' => e = .returned (.bool (lessB s t)) ∧ Below w.heap.size w w' := by
  unfold lessB
  by_cases h1 : s.size < t.size
  · have hi : (s.size : Int) < (t.size : Int) := by omega
    rw [decide_eq_true h1]
    clear h1
    go_enter Try.func32, Try.ntmps32
    go_wp2
    go_ret
    exact ⟨rfl, Below.refl _ _⟩
  · have hi : ((s.size : Int) < (t.size : Int)) = False := by simp; omega
    rw [decide_eq_false h1]
    by_cases h2 : s.size = t.size
    · have hb : ((s.size : Int) == (t.size : Int)) = true := by rw [beq_iff_eq]; omega
      rw [decide_eq_true h2]
      clear h1 h2
      go_enter Try.func32, Try.ntmps32
      go_wp2
      go_ret
      exact ⟨by simp [ByteArray.toList_eq], Below.refl _ _⟩
    · have hb : ((s.size : Int) == (t.size : Int)) = false := by rw [beq_eq_false_iff_ne]; omega
      rw [decide_eq_false h2]
      clear h1 h2
      go_enter Try.func32, Try.ntmps32
      go_wp2
      go_ret
      exact ⟨rfl, Below.refl _ _⟩
theorem x_y_least {j : Nat} {s : ByteArray} (h1 : (textsL [120, 121] [] 1)[j]? = some s) (h2 : ∀ u ∈ (textsL [120, 121] [] 1).take j, accG xG u = accG yG u) (h3 : accG yG s = (!accG xG s)) : s = ⟨#[120]⟩ ∧ accG xG s = true := by
  have x0 : accG xG ⟨#[]⟩ = false := x_acc _ (by decide) (o := none) (by decide +kernel)
  have x1 : accG xG ⟨#[120]⟩ = true := x_acc _ (by decide) (o := some 1) (by decide +kernel)
  have y0 : accG yG ⟨#[]⟩ = false := y_acc _ (by decide) (o := none) (by decide +kernel)
  have y1 : accG yG ⟨#[120]⟩ = false := y_acc _ (by decide) (o := none) (by decide +kernel)
  rw [texts_xy1] at h1 h2
  match j, h1, h2 with
  | 0, h1, _ => simp at h1; subst h1; rw [x0, y0] at h3; cases h3
  | 1, h1, _ => simp at h1; subst h1; exact ⟨rfl, x1⟩
  | j + 2, _, h2 => have := h2 ⟨#[120]⟩ (by simp); rw [x1, y1] at this; cases this
theorem x_y_not : ¬ ∀ u ∈ textsL [120, 121] [] 1, accG xG u = accG yG u := fun h => by
  have x1 : accG xG ⟨#[120]⟩ = true := x_acc _ (by decide) (o := some 1) (by decide +kernel)
  have y1 : accG yG ⟨#[120]⟩ = false := y_acc _ (by decide) (o := none) (by decide +kernel)
  have := h ⟨#[120]⟩ (by rw [texts_xy1]; simp)
  rw [x1, y1] at this
  cases this
theorem xy_look1 : LookOk xG ⟨#[120, 121]⟩ 1 := ⟨x_well, xy_ok, 1, rfl, by decide, by decide +kernel⟩
theorem xy_look2 : LookOk yG ⟨#[120, 121]⟩ 1 := ⟨y_well, xy_ok, 1, rfl, by decide, by decide +kernel⟩
end Go.Proofs.Ytlamphneimpdlaa
