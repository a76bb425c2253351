/- Plain laws of merged marks: no program in sight but for the bound of a mark. -/
import Derived.Test.YtkoenjnjkapfmaaCov2
namespace Go.Proofs.Ytkoenjnjkapfmaa
open Go.RowKit

theorem mergeE_zero {a b : List Int} : mergeE a b = 0 ↔ checkL a = 0 ∧ checkL b = 0 ∧ a.length = b.length := by
  unfold mergeE
  by_cases h1 : checkL a = 0
  · by_cases h2 : checkL b = 0
    · by_cases h3 : a.length = b.length
      · simp [h1, h2, h3]
      · simp [h1, h2, h3]
    · simp [h1, h2]
  · simp [h1]

theorem orI_fin {P : Int → Int → Int → Prop} (h : ∀ x y z : Fin 4, P ((x : Nat) : Int) ((y : Nat) : Int) ((z : Nat) : Int)) {x y z : Int} (hx : 0 ≤ x ∧ x ≤ 3) (hy : 0 ≤ y ∧ y ≤ 3) (hz : 0 ≤ z ∧ z ≤ 3) : P x y z := by
  obtain ⟨n, rfl⟩ := Int.eq_ofNat_of_zero_le hx.1
  obtain ⟨m, rfl⟩ := Int.eq_ofNat_of_zero_le hy.1
  obtain ⟨k, rfl⟩ := Int.eq_ofNat_of_zero_le hz.1
  exact h ⟨n, by omega⟩ ⟨m, by omega⟩ ⟨k, by omega⟩
theorem orI_comm {x y : Int} (hx : 0 ≤ x ∧ x ≤ 3) (hy : 0 ≤ y ∧ y ≤ 3) : orI x y = orI y x :=
  orI_fin (P := fun x y _ => orI x y = orI y x) (by decide +kernel) hx hy hx
theorem orI_self {x : Int} (hx : 0 ≤ x ∧ x ≤ 3) : orI x x = x :=
  orI_fin (P := fun x _ _ => orI x x = x) (by decide +kernel) hx hx hx
theorem orI_zero {x : Int} (hx : 0 ≤ x ∧ x ≤ 3) : orI x 0 = x :=
  orI_fin (P := fun x _ _ => orI x 0 = x) (by decide +kernel) hx hx hx
theorem orI_bd {x y : Int} (hx : 0 ≤ x ∧ x ≤ 3) (hy : 0 ≤ y ∧ y ≤ 3) : 0 ≤ orI x y ∧ orI x y ≤ 3 :=
  orI_fin (P := fun x y _ => 0 ≤ orI x y ∧ orI x y ≤ 3) (by decide +kernel) hx hy hx
theorem orI_assoc {x y z : Int} (hx : 0 ≤ x ∧ x ≤ 3) (hy : 0 ≤ y ∧ y ≤ 3) (hz : 0 ≤ z ∧ z ≤ 3) : orI (orI x y) z = orI x (orI y z) :=
  orI_fin (P := fun x y z => orI (orI x y) z = orI x (orI y z)) (by decide +kernel) hx hy hz

def Marks (a : List Int) : Prop := ∀ z ∈ a, 0 ≤ z ∧ z ≤ 3
theorem zip_comm : ∀ {a b : List Int}, Marks a → Marks b → List.zipWith orI a b = List.zipWith orI b a
  | [], [], _, _ => rfl
  | [], _ :: _, _, _ => rfl
  | _ :: _, [], _, _ => rfl
  | x :: a, y :: b, ha, hb => by
    rw [List.zipWith_cons_cons, List.zipWith_cons_cons, orI_comm (ha x (by simp)) (hb y (by simp)), zip_comm (fun z hz => ha z (by simp [hz])) (fun z hz => hb z (by simp [hz]))]
theorem zip_self : ∀ {a : List Int}, Marks a → List.zipWith orI a a = a
  | [], _ => rfl
  | x :: a, ha => by
    rw [List.zipWith_cons_cons, orI_self (ha x (by simp)), zip_self (fun z hz => ha z (by simp [hz]))]
theorem zip_zero : ∀ {a : List Int}, Marks a → List.zipWith orI a (List.replicate a.length 0) = a
  | [], _ => rfl
  | x :: a, ha => by
    rw [List.length_cons, List.replicate_succ, List.zipWith_cons_cons, orI_zero (ha x (by simp)), zip_zero (fun z hz => ha z (by simp [hz]))]
theorem zip_marks : ∀ {a b : List Int}, Marks a → Marks b → Marks (List.zipWith orI a b)
  | [], [], _, _ => by intro z hz; cases hz
  | [], _ :: _, _, _ => by intro z hz; cases hz
  | _ :: _, [], _, _ => by intro z hz; cases hz
  | x :: a, y :: b, ha, hb => by
    intro z hz
    rw [List.zipWith_cons_cons] at hz
    rcases List.mem_cons.1 hz with rfl | hz
    · exact orI_bd (ha x (by simp)) (hb y (by simp))
    · exact zip_marks (fun z hz => ha z (by simp [hz])) (fun z hz => hb z (by simp [hz])) z hz
theorem zip_assoc : ∀ {a b c : List Int}, Marks a → Marks b → Marks c → List.zipWith orI (List.zipWith orI a b) c = List.zipWith orI a (List.zipWith orI b c)
  | [], _, _, _, _, _ => by simp
  | _ :: _, [], _, _, _, _ => by simp
  | _ :: _, _ :: _, [], _, _, _ => by simp
  | x :: a, y :: b, z :: c, ha, hb, hc => by
    simp only [List.zipWith_cons_cons]
    rw [orI_assoc (ha x (by simp)) (hb y (by simp)) (hc z (by simp)), zip_assoc (fun z hz => ha z (by simp [hz])) (fun z hz => hb z (by simp [hz])) (fun z hz => hc z (by simp [hz]))]

theorem mergeV_zip {a b : List Int} (h : mergeE a b = 0) : mergeV a b = List.zipWith orI a b := if_pos h
theorem mergeV_len {a b : List Int} (h : mergeE a b = 0) : (mergeV a b).length = a.length := by
  rw [mergeV_zip h, List.length_zipWith, (mergeE_zero.1 h).2.2]; omega
theorem merge_ok {a b : List Int} (h : mergeE a b = 0) : checkL (mergeV a b) = 0 := by
  obtain ⟨h1, h2, h3⟩ := mergeE_zero.1 h
  refine check_of (by rw [mergeV_len h]; exact (check_01 h1).1) ?_
  rw [mergeV_zip h]
  exact zip_marks (check_01 h1).2 (check_01 h2).2
theorem check_zeros {n : Nat} (h : n ≤ 120) : checkL (List.replicate n 0) = 0 := by
  refine check_of (by simpa using h) ?_
  intro z hz
  rw [(List.mem_replicate.1 hz).2]
  omega
theorem merge_comm {a b : List Int} (h : mergeE a b = 0) : mergeE b a = 0 ∧ mergeV b a = mergeV a b := by
  obtain ⟨h1, h2, h3⟩ := mergeE_zero.1 h
  have h' : mergeE b a = 0 := mergeE_zero.2 ⟨h2, h1, h3.symm⟩
  exact ⟨h', by rw [mergeV_zip h, mergeV_zip h']; exact zip_comm (check_01 h2).2 (check_01 h1).2⟩
theorem merge_self {a b : List Int} (h : mergeE a b = 0) : mergeE a a = 0 ∧ mergeV a a = a := by
  obtain ⟨h1, _, _⟩ := mergeE_zero.1 h
  have h' : mergeE a a = 0 := mergeE_zero.2 ⟨h1, h1, rfl⟩
  exact ⟨h', by rw [mergeV_zip h']; exact zip_self (check_01 h1).2⟩
theorem merge_zeros {a b : List Int} (h : mergeE a b = 0) : mergeE a (List.replicate a.length 0) = 0 ∧ mergeV a (List.replicate a.length 0) = a := by
  obtain ⟨h1, _, _⟩ := mergeE_zero.1 h
  have h' : mergeE a (List.replicate a.length 0) = 0 := mergeE_zero.2 ⟨h1, check_zeros (check_01 h1).1, by simp⟩
  exact ⟨h', by rw [mergeV_zip h']; exact zip_zero (check_01 h1).2⟩
theorem merge_assoc {a b c : List Int} (h : mergeE a b = 0) (h1 : mergeE (mergeV a b) c = 0) (h2 : mergeE b c = 0) : mergeE a (mergeV b c) = 0 ∧ mergeV a (mergeV b c) = mergeV (mergeV a b) c := by
  obtain ⟨ka, kb, kl⟩ := mergeE_zero.1 h
  obtain ⟨_, kc, kl2⟩ := mergeE_zero.1 h2
  have h' : mergeE a (mergeV b c) = 0 := mergeE_zero.2 ⟨ka, merge_ok h2, by rw [mergeV_len h2, kl]⟩
  refine ⟨h', ?_⟩
  rw [mergeV_zip h', mergeV_zip h1, mergeV_zip h, mergeV_zip h2]
  exact (zip_assoc (check_01 ka).2 (check_01 kb).2 (check_01 kc).2).symm
end Go.Proofs.Ytkoenjnjkapfmaa
