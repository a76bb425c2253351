/- Meanings put together: plain. -/
import Derived.Test.YtefechceoeeonaaPkA
namespace Go.Proofs.Ytefechceoeeonaa
open Go.RowKit

theorem one_of {α : Type} {l : List α} (h : l.length = 1) : ∃ x, l = [x] := by
  match l, h with
  | [x], _ => exact ⟨x, rfl⟩
theorem nil_of {α : Type} {l : List α} (h : l.length = 0) : l = [] := List.eq_nil_of_length_eq_zero h

theorem of_zero {g : List Rl} {kn : List Fa} : ofE g kn (.mk 1 0 0 0 0 ⟨#[]⟩ []) = ⟨true, false, false⟩ := by rw [ofE, if_pos rfl]
section
variable {g : List Rl} {s : List UInt8}
theorem semR_next {x : Ex} {p q : Nat} {o : Option Nat} (h : Sem g s x p (some q)) (h' : ∃ n, evR g s n x q = some o) : ∃ n, evR g s n x p = some o := by
  obtain ⟨n, h⟩ := h
  obtain ⟨m, h'⟩ := h'
  exact ⟨max n m + 1, by rw [evR_s, ev_le h (Nat.le_max_left _ _)]; exact evR_le h' (Nat.le_max_right _ _)⟩
theorem semR_stop {x : Ex} {p : Nat} (h : Sem g s x p none) : ∃ n, evR g s n x p = some (some p) := by
  obtain ⟨n, h⟩ := h
  exact ⟨n + 1, by rw [evR_s, h]⟩
theorem semS_next {x : Ex} {xs : List Ex} {p q : Nat} {o : Option Nat} (h : Sem g s x p (some q)) (h' : ∃ n, evS g s n xs q = some o) : ∃ n, evS g s n (x :: xs) p = some o := by
  obtain ⟨n, h⟩ := h
  obtain ⟨m, h'⟩ := h'
  exact ⟨max n m + 1, by rw [evS_cons, ev_le h (Nat.le_max_left _ _)]; exact evS_le h' (Nat.le_max_right _ _)⟩
theorem semS_stop {x : Ex} {xs : List Ex} {p : Nat} (h : Sem g s x p none) : ∃ n, evS g s n (x :: xs) p = some none := by
  obtain ⟨n, h⟩ := h
  exact ⟨n + 1, by rw [evS_cons, h]⟩
theorem semA_next {x : Ex} {xs : List Ex} {p : Nat} {o : Option Nat} (h : Sem g s x p none) (h' : ∃ n, evA g s n xs p = some o) : ∃ n, evA g s n (x :: xs) p = some o := by
  obtain ⟨n, h⟩ := h
  obtain ⟨m, h'⟩ := h'
  exact ⟨max n m + 1, by rw [evA_cons, ev_le h (Nat.le_max_left _ _)]; exact evA_le h' (Nat.le_max_right _ _)⟩
theorem semA_stop {x : Ex} {xs : List Ex} {p q : Nat} (h : Sem g s x p (some q)) : ∃ n, evA g s n (x :: xs) p = some (some q) := by
  obtain ⟨n, h⟩ := h
  exact ⟨n + 1, by rw [evA_cons, h]⟩
theorem sem_of_S {a b c d : Int} {t : ByteArray} {ks : List Ex} {p : Nat} {o : Option Nat} (h : ∃ n, evS g s n ks p = some o) : Sem g s (.mk 5 a b c d t ks) p o := by
  obtain ⟨n, h⟩ := h
  exact ⟨n + 1, by rw [ev_s, if_neg (by decide), if_neg (by decide), if_neg (by decide), if_neg (by decide), if_pos rfl]; exact h⟩
theorem sem_of_A {a b c d : Int} {t : ByteArray} {ks : List Ex} {p : Nat} {o : Option Nat} (h : ∃ n, evA g s n ks p = some o) : Sem g s (.mk 6 a b c d t ks) p o := by
  obtain ⟨n, h⟩ := h
  exact ⟨n + 1, by rw [ev_s, if_neg (by decide), if_neg (by decide), if_neg (by decide), if_neg (by decide), if_neg (by decide), if_pos rfl]; exact h⟩
theorem sem_of_K {k a b c d : Int} {t : ByteArray} {x : Ex} {ks : List Ex} {p : Nat} {o : Option Nat} (h7 : 7 ≤ k) (h : ∃ n, evK g s n k x p = some o) : Sem g s (.mk k a b c d t (x :: ks)) p o := by
  obtain ⟨n, h⟩ := h
  exact ⟨n + 1, by rw [ev_s, if_neg (by omega), if_neg (by omega), if_neg (by omega), if_neg (by omega), if_neg (by omega), if_neg (by omega)]; exact h⟩
theorem semK_star {x : Ex} {p : Nat} {o : Option Nat} (h : ∃ n, evR g s n x p = some o) : ∃ n, evK g s n 7 x p = some o := by
  obtain ⟨n, h⟩ := h
  exact ⟨n + 1, by rw [evK_s, if_pos rfl]; exact h⟩
theorem semK_not {x : Ex} {p : Nat} {o : Option Nat} (h : Sem g s x p o) : ∃ n, evK g s n 11 x p = some (if o = none then some p else none) := by
  obtain ⟨n, h⟩ := h
  refine ⟨n + 1, ?_⟩
  rw [evK_s, if_neg (by decide), h]
  cases o <;> simp
end
end Go.Proofs.Ytefechceoeeonaa
