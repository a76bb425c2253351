/- Plain laws of texts of an alphabet and their ranks. -/
import Derived.Test.YtkoenjnjkapfmaaStr2
namespace Go.Proofs.Ytkoenjnjkapfmaa
open Go.RowKit

def idx (a : List UInt8) (c : UInt8) : Nat := (Lib.indexByte a c).toNat
theorem idx_spec {a : List UInt8} {c : UInt8} (h : c ∈ a) : Lib.indexByte a c = (idx a c : Int) ∧ a[idx a c]? = some c ∧ idx a c < a.length := by
  have h0 : 0 ≤ Lib.indexByte a c := index_mem.2 h
  have h1 : Lib.indexByte a c = (idx a c : Int) := by unfold idx; omega
  have h2 := (Lib.indexByte_some h1).1
  exact ⟨h1, h2, getElem?_lt h2⟩
theorem rises_lt {a : List UInt8} (h : Rises a a.length) : ∀ (j i : Nat), i < j → j < a.length → bt a i < bt a j
  | 0, i, h1, _ => by omega
  | j + 1, i, h1, h2 => by
    have hs := h (j + 1) (by omega) h2
    rw [Nat.add_sub_cancel] at hs
    by_cases hij : i = j
    · subst hij; exact hs
    · exact Nat.lt_trans (rises_lt h j i (by omega) (by omega)) hs
theorem bt_get {a : List UInt8} {i : Nat} {c : UInt8} (h : a[i]? = some c) : bt a i = c.toNat := by
  unfold bt; rw [List.getD_eq_getElem?_getD, h]; rfl
theorem idx_lt {a : List UInt8} (ha : AlphaOk a) {c d : UInt8} (hc : c ∈ a) (hd : d ∈ a) : idx a c < idx a d ↔ c < d := by
  obtain ⟨_, gc, lc⟩ := idx_spec hc
  obtain ⟨_, gd, ld⟩ := idx_spec hd
  have bc := bt_get gc
  have bd := bt_get gd
  rw [UInt8.lt_iff_toNat_lt]
  rcases Nat.lt_trichotomy (idx a c) (idx a d) with h | h | h
  · have := rises_lt ha.2.2 _ _ h ld; omega
  · rw [h] at bc; omega
  · have := rises_lt ha.2.2 _ _ h lc; omega
theorem idx_inj {a : List UInt8} {c d : UInt8} (hc : c ∈ a) (hd : d ∈ a) (h : idx a c = idx a d) : c = d := by
  have h1 := (idx_spec hc).2.1
  have h2 := (idx_spec hd).2.1
  rw [h, h2] at h1
  exact (Option.some.inj h1).symm

/-- the number that a text says -/
def val (a : List UInt8) : List UInt8 → Nat
  | [] => 0
  | c :: l => idx a c * a.length ^ l.length + val a l
def OverA (a l : List UInt8) : Prop := ∀ c ∈ l, c ∈ a
theorem OverA.tail {a l : List UInt8} {c : UInt8} (h : OverA a (c :: l)) : c ∈ a ∧ OverA a l := ⟨h c (by simp), fun d hd => h d (by simp [hd])⟩
theorem val_lt {a : List UInt8} : ∀ {l : List UInt8}, OverA a l → val a l < a.length ^ l.length
  | [], _ => by simp [val]
  | c :: l, h => by
    obtain ⟨hc, hl⟩ := h.tail
    have h1 := val_lt hl
    have h2 := (idx_spec hc).2.2
    rw [val, List.length_cons, Nat.pow_succ]
    have h3 : (idx a c + 1) * a.length ^ l.length ≤ a.length * a.length ^ l.length := Nat.mul_le_mul_right _ h2
    rw [Nat.add_mul, Nat.one_mul] at h3
    rw [Nat.mul_comm (a.length ^ l.length)]
    omega
theorem val_cmp {a : List UInt8} (ha : AlphaOk a) : ∀ {l t : List UInt8}, OverA a l → OverA a t → l.length = t.length → (val a l < val a t ↔ l < t)
  | [], [], _, _, _ => by simp [val]
  | [], _ :: _, _, _, h => by simp at h
  | _ :: _, [], _, _, h => by simp at h
  | c :: l, d :: t, hl, ht, h => by
    obtain ⟨hc, hl'⟩ := hl.tail
    obtain ⟨hd, ht'⟩ := ht.tail
    have hlen : l.length = t.length := by simpa using h
    have ih := val_cmp ha hl' ht' hlen
    have v1 := val_lt hl'
    have v2 := val_lt ht'
    rw [List.cons_lt_cons_iff, val, val, hlen]
    rw [hlen] at v1
    generalize a.length ^ t.length = p at *
    rcases Nat.lt_trichotomy (idx a c) (idx a d) with h1 | h1 | h1
    · have h2 : (idx a c + 1) * p ≤ idx a d * p := Nat.mul_le_mul_right _ h1
      rw [Nat.add_mul, Nat.one_mul] at h2
      have := (idx_lt ha hc hd).1 h1
      exact ⟨fun _ => .inl this, fun _ => by omega⟩
    · obtain rfl := idx_inj hc hd h1
      constructor
      · intro h2; exact .inr ⟨rfl, ih.1 (by omega)⟩
      · rintro (h2 | ⟨_, h2⟩)
        · exact absurd h2 (UInt8.lt_irrefl c)
        · have := ih.2 h2; omega
    · have h2 : (idx a d + 1) * p ≤ idx a c * p := Nat.mul_le_mul_right _ h1
      rw [Nat.add_mul, Nat.one_mul] at h2
      have h3 := (idx_lt ha hd hc).1 h1
      constructor
      · intro h4; omega
      · rintro (h4 | ⟨h4, _⟩)
        · exact absurd (UInt8.lt_trans h3 h4) (UInt8.lt_irrefl d)
        · subst h4; exact absurd h1 (by omega)
theorem val_inj {a : List UInt8} : ∀ {l t : List UInt8}, OverA a l → OverA a t → l.length = t.length → val a l = val a t → l = t
  | [], [], _, _, _, _ => rfl
  | [], _ :: _, _, _, h, _ => by simp at h
  | _ :: _, [], _, _, h, _ => by simp at h
  | c :: l, d :: t, hl, ht, h, he => by
    obtain ⟨hc, hl'⟩ := hl.tail
    obtain ⟨hd, ht'⟩ := ht.tail
    have hlen : l.length = t.length := by simpa using h
    have v1 := val_lt hl'
    have v2 := val_lt ht'
    rw [val, val, hlen] at he
    rw [hlen] at v1
    generalize a.length ^ t.length = p at *
    have h1 : idx a c = idx a d := by
      rcases Nat.lt_trichotomy (idx a c) (idx a d) with h1 | h1 | h1
      · have h2 : (idx a c + 1) * p ≤ idx a d * p := Nat.mul_le_mul_right _ h1
        rw [Nat.add_mul, Nat.one_mul] at h2; omega
      · exact h1
      · have h2 : (idx a d + 1) * p ≤ idx a c * p := Nat.mul_le_mul_right _ h1
        rw [Nat.add_mul, Nat.one_mul] at h2; omega
    obtain rfl := idx_inj hc hd h1
    rw [val_inj hl' ht' hlen (by omega)]

/-- the rank of a text -/
def rank (a l : List UInt8) : Nat := shN a.length l.length + val a l
theorem shN_mono {m i j : Nat} (h : i ≤ j) : shN m i ≤ shN m j := by
  induction j with
  | zero => obtain rfl : i = 0 := by omega
            exact Nat.le_refl _
  | succ j ih =>
    by_cases hij : i = j + 1
    · subst hij; exact Nat.le_refl _
    · have := ih (by omega)
      rw [shN]; omega
theorem rank_bd {a l : List UInt8} (h : OverA a l) : shN a.length l.length ≤ rank a l ∧ rank a l < shN a.length (l.length + 1) := by
  have := val_lt h
  unfold rank
  rw [shN]
  omega
theorem rank_len {a l t : List UInt8} (hl : OverA a l) (ht : OverA a t) (h : l.length < t.length) : rank a l < rank a t := by
  have h1 := rank_bd hl
  have h2 := rank_bd ht
  have h3 := shN_mono (m := a.length) (show l.length + 1 ≤ t.length by omega)
  omega
theorem rank_cmp {a l t : List UInt8} (ha : AlphaOk a) (hl : OverA a l) (ht : OverA a t) : rank a l < rank a t ↔ l.length < t.length ∨ l.length = t.length ∧ l < t := by
  rcases Nat.lt_trichotomy l.length t.length with h | h | h
  · exact ⟨fun _ => .inl h, fun _ => rank_len hl ht h⟩
  · have := val_cmp ha hl ht h
    unfold rank
    rw [h]
    constructor
    · intro h1; exact .inr ⟨rfl, this.1 (by omega)⟩
    · rintro (h1 | ⟨_, h1⟩)
      · omega
      · have := this.2 h1; omega
  · have := rank_len ht hl h
    constructor
    · intro h1; omega
    · rintro (h1 | ⟨h1, _⟩) <;> omega
theorem rank_inj {a l t : List UInt8} (hl : OverA a l) (ht : OverA a t) (h : rank a l = rank a t) : l = t := by
  rcases Nat.lt_trichotomy l.length t.length with h1 | h1 | h1
  · have := rank_len hl ht h1; omega
  · refine val_inj hl ht h1 ?_
    unfold rank at h
    rw [h1] at h
    omega
  · have := rank_len ht hl h1; omega
end Go.Proofs.Ytkoenjnjkapfmaa
