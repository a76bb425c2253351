/- list.Look. -/
import Derived.Test.YtkmcnekjimobhaaLsP
import Derived.Test.YtkmcnekjimobhaaXD
namespace Go.Proofs.Ytkmcnekjimobhaa
open Go.RowKit

/-- may there be a list? -/
def LookOk (g : List Rl) (a : ByteArray) (n : Int) : Prop := (wellG g).2 = 0 ∧ AlphaOk a.data.toList ∧ ∃ k : Nat, n = k ∧ k ≤ 6 ∧ shN a.size (k + 1) ≤ 5000
theorem well_lt (g : List Rl) : 0 ≤ (wellG g).2 ∧ (wellG g).2 ≤ 9 := by
  have h := check_lt g
  unfold wellG
  split
  · simp only; omega
  · split
    · simp only; omega
    · split <;> simp only <;> omega
theorem below_of_drewn {w w' : World} (h : ∃ d, w' = w.drewN d) : Below w.heap.size w w' := by obtain ⟨d, rfl⟩ := h; exact below_drewN (Below.refl _ _) d
def LLookQ (g : List Rl) (a : ByteArray) (n : Int) (w : World) (e : Ending) (w' : World) : Prop := (∃ x, e = .returned (.int .i64 x) ∧ (x = 0 ↔ LookOk g a n) ∧ x ≠ 11) ∧ Below w.heap.size w w'

set_option maxRecDepth 100000 in
set_option maxHeartbeats 4000000 in
theorem llook_any {g : List Rl} {A : Option Addr} {cp : Nat} {row : Nat → List Value} {w : World} (h : GrIs w w.heap.size g A cp row) (a : ByteArray) (n : Int) (ha : a.size ≤ 140737488351232) (hn : I64 n) :
    Calls Try.prog 70 #[.agg #[.slice A g.length cp], .string a, .int .i64 n] w (LLookQ g a n w) := by
  have hck := fun W (hW : Below w.heap.size w W) => well_any ((h.on hW).more hW.size)
  have HCK := Lib.hid hck
  have hma := fun W => many3_any a n W ha hn
  have HM := Lib.hid hma
  have HL : Hid (∀ x, (x = 0 ↔ LookOk g a n) ∧ x ≠ 11 → ∀ w', Below w.heap.size w w' → LLookQ g a n w (.returned (.int .i64 x)) w') := fun x hx w' hb => ⟨⟨x, rfl, hx⟩, hb⟩
  have HR : Hid (0 ≤ (wellG g).2 ∧ (wellG g).2 ≤ 9) := well_lt g
  have HD : Hid (LookOk g a n ↔ (wellG g).2 = 0 ∧ AlphaOk a.data.toList ∧ ∃ k : Nat, n = k ∧ k ≤ 6 ∧ shN a.size (k + 1) ≤ 5000) := Iff.rfl
  clear hck h hma hn ha
  generalize LLookQ g a n w = Q at HL
  generalize LookOk g a n = L at HL HD
  unfold WellQ at HCK
  generalize wellG g = r at HCK HR HD
  obtain ⟨i, x⟩ := r
  by_cases hx : x = 0
  · subst hx
    go_enter Try.func70, Try.ntmps70
    go_wp2_with fail
    refine (HCK.out _ (by repeat (first | exact Below.refl _ _ | assumption | refine Below.drew ?_ | refine below_drewN ?_ _ | refine Below.alloc ?_ (by first | omega | (simp; omega) | simp) _ | refine Below.setCell ?_ (by first | omega | (simp; omega) | simp) _))).mono ?_
    rintro e w1 ⟨rfl, hb1⟩
    have hw1 : Below w.heap.size w w1 := ((Below.refl _ w).alloc (Nat.le_refl _) _).trans (hb1.mono (by simp))
    clear hb1
    go_wp2_with fail
    refine (HM.out _).mono ?_
    rintro e w2 ⟨⟨m, y, rfl, hy, h11⟩, hd⟩
    have hb2 : Below w1.heap.size w1 w2 := below_of_drewn hd
    have hw2 : Below w.heap.size w w2 := hw1.trans (hb2.mono hw1.size)
    clear hb2 hd
    rcases hy with ⟨rfl, hao, k, rfl, hk, rfl⟩ | ⟨hy0, rfl, hno⟩
    · by_cases hm : shN a.size (k + 1) ≤ 5000
      · have HQ := HL.out 0 ⟨by rw [HD.out]; exact ⟨fun _ => ⟨by trivial, hao, k, rfl, hk, hm⟩, fun _ => rfl⟩, by decide⟩ w2 hw2
        have hmi : ((5000 : Int) < ((shN a.size (k + 1) : Nat) : Int)) = False := by simp; omega
        generalize shN a.size (k + 1) = M at hmi
        have HQ' := Lib.hid HQ
        clear HQ hm hao h11
        go_wp2
        exact HQ'.out
      · have HQ := HL.out 2 ⟨by rw [HD.out]; exact ⟨fun h => by simp at h, fun ⟨_, _, k', h1, _, h2⟩ => absurd (by rw [show k = k' by omega]; exact h2) hm⟩, by decide⟩ w2 hw2
        have hmi : (5000 : Int) < ((shN a.size (k + 1) : Nat) : Int) := by omega
        generalize shN a.size (k + 1) = M at hmi
        have HQ' := Lib.hid HQ
        clear HQ hm hao h11
        go_wp2
        exact HQ'.out
    · have HQ := HL.out y ⟨by rw [HD.out]; exact ⟨fun h => absurd h hy0, fun ⟨_, h1, k', h2, h3, _⟩ => by have := hno h1; omega⟩, h11⟩ w2 hw2
      have HQ' := Lib.hid HQ
      have hyb : (y != 0) = true := by rw [bne_iff_ne]; exact hy0
      clear HQ hy0 h11 hno
      go_wp2
      exact HQ'.out
  · have HQ : Hid (∀ w', Below w.heap.size w w' → Q (.returned (.int .i64 x)) w') := HL.out x ⟨by rw [HD.out]; exact ⟨fun h => absurd h hx, fun ⟨h1, _⟩ => absurd h1 hx⟩, fun h => by have := HR.out; simp only at this; omega⟩
    have hxb : (x != 0) = true := by rw [bne_iff_ne]; exact hx
    clear hx
    go_enter Try.func70, Try.ntmps70
    go_wp2_with fail
    refine (HCK.out _ (by repeat (first | exact Below.refl _ _ | assumption | refine Below.drew ?_ | refine below_drewN ?_ _ | refine Below.alloc ?_ (by first | omega | (simp; omega) | simp) _ | refine Below.setCell ?_ (by first | omega | (simp; omega) | simp) _))).mono ?_
    rintro e w1 ⟨rfl, hb1⟩
    have hw1 : Below w.heap.size w w1 := ((Below.refl _ w).alloc (Nat.le_refl _) _).trans (hb1.mono (by simp))
    clear hb1
    go_wp2
    exact HQ.out _ hw1
end Go.Proofs.Ytkmcnekjimobhaa
