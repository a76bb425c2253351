/- Lines and columns: plain. -/
import Derived.Test.YtmikpogmklindaaDoorPcP
namespace Go.Proofs.YtmikpogmklindaaDoor
open Go.RowKit

/-- where the line begins in which a place lies -/
structure IsFrm (l : List UInt8) (at_ f : Nat) : Prop where
  le : f ≤ at_
  nl : f = 0 ∨ l[f - 1]? = some 10
  no : ∀ i, f ≤ i → i < at_ → l[i]? ≠ some 10
theorem frm_bd {l : List UInt8} {a f : Nat} (h : IsFrm l a f) (ha : a ≤ l.length) : ∃ k, St l 0 f k := by
  rcases h.nl with rfl | hn
  · exact ⟨0, .nil 0⟩
  · by_cases h0 : f = 0
    · subst h0; exact ⟨0, .nil 0⟩
    · have hfl := h.le
      have hb : bt l (f - 1) = 10 := by
        unfold bt
        rw [List.getD_eq_getElem?_getD, hn]
        rfl
      obtain ⟨k, hk⟩ := St.ascii (l := l) (p := f - 1) (by omega) (by omega) (f - 1) 0 (by omega) (by omega)
      have hw : wd (l.drop (f - 1)) = 1 := wd_ascii (by
        unfold bt at hb ⊢
        rw [List.getD_eq_getElem?_getD, List.getElem?_drop, Nat.add_zero, ← List.getD_eq_getElem?_getD]
        omega)
      refine ⟨k + 1, hk.app (.cons _ _ _ (by omega) ?_)⟩
      rw [hw, show f - 1 + 1 = f by omega]
      exact .nil _
theorem count_pos_at {l : List UInt8} {f g : Nat} (hfg : f < g) (h : l[g - 1]? = some 10) : (l.take f).count 10 < (l.take g).count 10 := by
  have e : l.take g = l.take f ++ (l.drop f).take (g - f) := by
    rw [← List.take_add, show f + (g - f) = g by omega]
  rw [e, List.count_append]
  have hm : (10 : UInt8) ∈ (l.drop f).take (g - f) := by
    refine List.mem_of_getElem? (i := g - 1 - f) ?_
    rw [List.getElem?_take, if_pos (by omega), List.getElem?_drop, show f + (g - 1 - f) = g - 1 by omega]
    exact h
  have := List.count_pos_iff.2 hm
  omega
theorem place_lt {l : List UInt8} {a b f g ka kb : Nat} (hab : a < b) (hb : b ≤ l.length) (Fa : IsFrm l a f) (Fb : IsFrm l b g) (Ba : St l 0 a ka) (Bb : St l 0 b kb) :
    (l.take f).count 10 < (l.take g).count 10 ∨ ((l.take f).count 10 = (l.take g).count 10 ∧ cntS ((l.drop f).take (a - f)) < cntS ((l.drop g).take (b - g))) := by
  have hfa := Fa.le
  have hgb := Fb.le
  have hfg : f ≤ g := by
    refine Nat.not_lt.1 fun hlt => ?_
    rcases Fa.nl with h | h
    · omega
    · exact Fb.no (f - 1) (by omega) (by omega) h
  rcases Nat.lt_or_ge f g with hlt | hge
  · left
    rcases Fb.nl with h | h
    · omega
    · exact count_pos_at hlt h
  · obtain rfl : f = g := by omega
    right
    obtain ⟨k, hk⟩ := frm_bd Fa (by omega)
    obtain ⟨k1, h1⟩ := hk.part Ba hfa
    obtain ⟨k2, h2⟩ := hk.part Bb hgb
    refine ⟨rfl, ?_⟩
    rw [h1.cntS (by omega), h2.cntS (by omega)]
    exact h1.lt h2 hab
/-- a line begins behind each byte 10 -/
theorem frm_at {l : List UInt8} {a f : Nat} (h0 : 0 < a) (F : IsFrm l a f) (h : l[a - 1]? = some 10) : f = a := by
  refine Nat.le_antisymm F.le (Nat.not_lt.1 fun hlt => ?_)
  exact F.no (a - 1) (by omega) (by omega) h

/-! the places -/
def psF (l : List UInt8) : Nat → Nat → List Nat
  | 0, _ => []
  | f + 1, p => if p < l.length then p :: psF l f (p + wd (l.drop p)) else []
/-- places that are signs' beginnings, rising -/
structure Plc (l : List UInt8) (ps : List Nat) (q : Nat) : Prop where
  bd : ∀ (i p : Nat), ps[i]? = some p → p < q ∧ p < l.length ∧ ∃ k, St l 0 p k
  up : ∀ (i j p r : Nat), i < j → ps[i]? = some p → ps[j]? = some r → p < r
  here : ∃ k, St l 0 q k
  len : ps.length ≤ q
theorem Plc.nil (l : List UInt8) : Plc l [] 0 := ⟨fun i p h => by simp at h, fun i j p r _ h => by simp at h, ⟨0, .nil 0⟩, by simp⟩
theorem Plc.push {l : List UInt8} {ps : List Nat} {q : Nat} (h : Plc l ps q) (hq : q < l.length) : Plc l (ps ++ [q]) (q + wd (l.drop q)) := by
  have hw := wd_pos (l.drop q)
  obtain ⟨k, hk⟩ := h.here
  refine ⟨fun i p hp => ?_, fun i j p r hij hp hr => ?_, ⟨k + 1, hk.app (.cons _ _ _ hq (.nil _))⟩, by have := h.len; simp; omega⟩
  · rcases Nat.lt_trichotomy i ps.length with hi | hi | hi
    · rw [List.getElem?_append_left hi] at hp
      have := h.bd i p hp
      exact ⟨by omega, this.2.1, this.2.2⟩
    · subst hi
      simp at hp
      subst hp
      exact ⟨by omega, hq, k, hk⟩
    · rw [List.getElem?_eq_none (by simp; omega)] at hp; cases hp
  · have hjl := getElem?_lt hr
    simp at hjl
    rcases Nat.lt_or_ge j ps.length with hj | hj
    · rw [List.getElem?_append_left (by omega)] at hp hr
      exact h.up i j p r hij hp hr
    · obtain rfl : j = ps.length := by omega
      rw [List.getElem?_append_left (by omega)] at hp
      simp at hr
      subst hr
      exact (h.bd i p hp).1
/-- all of them, and the end -/
theorem Plc.all {l : List UInt8} {ps : List Nat} {q : Nat} (h : Plc l ps q) (hq : l.length = q) :
    (∀ (i p : Nat), (ps ++ [l.length])[i]? = some p → p ≤ l.length ∧ ∃ k, St l 0 p k) ∧ ∀ (i j p r : Nat), i < j → (ps ++ [l.length])[i]? = some p → (ps ++ [l.length])[j]? = some r → p < r := by
  refine ⟨fun i p hp => ?_, fun i j p r hij hp hr => ?_⟩
  · rcases Nat.lt_trichotomy i ps.length with hi | hi | hi
    · rw [List.getElem?_append_left hi] at hp
      have := h.bd i p hp
      exact ⟨by omega, this.2.2⟩
    · subst hi
      simp at hp
      subst hp
      exact ⟨Nat.le_refl _, by rw [hq]; exact h.here⟩
    · rw [List.getElem?_eq_none (by simp; omega)] at hp; cases hp
  · have hjl := getElem?_lt hr
    simp at hjl
    rcases Nat.lt_or_ge j ps.length with hj | hj
    · rw [List.getElem?_append_left (by omega)] at hp hr
      exact h.up i j p r hij hp hr
    · obtain rfl : j = ps.length := by omega
      rw [List.getElem?_append_left (by omega)] at hp
      simp at hr
      subst hr
      exact (h.bd i p hp).2.1
theorem St.end_ {l : List UInt8} {p k : Nat} (h : St l 0 p k) : p ≤ l.length := h.le.2 (by omega)

/-! chaffref's first -/
def badB (b : Nat) : Prop := b < 128 ∨ 191 < b
def bigV (low v : Nat) : Prop := v < low ∨ 1114111 < v ∨ (55296 ≤ v ∧ v < 57344)
instance (b : Nat) : Decidable (badB b) := by unfold badB; infer_instance
instance (low v : Nat) : Decidable (bigV low v) := by unfold bigV; infer_instance
def firN (n b0 b1 b2 b3 : Nat) : Nat :=
  if b0 < 128 then 1
  else if 194 ≤ b0 ∧ b0 < 224 then (if n < 2 ∨ badB b1 ∨ bigV 128 (b0 % 32 * 64 + b1 % 64) then 0 else 2)
  else if 224 ≤ b0 ∧ b0 < 240 then (if n < 3 ∨ badB b1 ∨ badB b2 ∨ bigV 2048 ((b0 % 16 * 64 + b1 % 64) * 64 + b2 % 64) then 0 else 3)
  else if 240 ≤ b0 ∧ b0 < 245 then (if n < 4 ∨ badB b1 ∨ badB b2 ∨ badB b3 ∨ bigV 65536 (((b0 % 8 * 64 + b1 % 64) * 64 + b2 % 64) * 64 + b3 % 64) then 0 else 4)
  else 0
set_option maxHeartbeats 4000000 in
theorem fir_dec (n b0 b1 b2 b3 : Nat) (h0 : b0 < 256) (h1 : b1 < 256) (h2 : b2 < 256) (h3 : b3 < 256) : max 1 (firN n b0 b1 b2 b3) = (Lib.decodeN n b0 b1 b2 b3).2 := by
  unfold firN Lib.decodeN badB bigV
  repeat' split
  all_goals simp only
  all_goals omega
end Go.Proofs.YtmikpogmklindaaDoor
