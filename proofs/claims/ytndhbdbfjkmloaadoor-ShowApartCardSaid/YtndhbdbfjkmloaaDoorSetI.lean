/- What set.First answers. -/
import Derived.Test.YtndhbdbfjkmloaaDoorSetH
import Derived.Test.YtndhbdbfjkmloaaDoorSet3
namespace Go.Proofs.YtndhbdbfjkmloaaDoor
open Go.RowKit

set_option maxRecDepth 100000 in
theorem first_any (l : List Nat) (hl : Words l) (f : Nat) (hf : f ≤ 256) (w : World) (hT : TabAt w) :
    Calls Tryd.prog 85 #[vals l, .int .i64 f] w fun e w' => ∃ r, e = .returned (.int .i64 r) ∧ FirstIs l f r ∧ Below w.heap.size w w' := by
  have HL := Lib.hid hl
  have hpos := hT.pos
  have HT := Lib.hid hT
  clear hl hT
  unfold vals
  have hblk : ∀ W : World, Hid (∀ k, k < 4 → Blk W w.heap.size 24 #[.int .u64 (l.getD 0 0 : Nat), .int .u64 (l.getD 1 0 : Nat), .int .u64 (l.getD 2 0 : Nat), .int .u64 (l.getD 3 0 : Nat)] → W.cell? ⟨w.heap.size, k, none⟩ = some (.int .u64 (l.getD k 0 : Nat))) := fun W k hk hb => by
    rcases (by omega : k = 0 ∨ k = 1 ∨ k = 2 ∨ k = 3) with rfl | rfl | rfl | rfl
    · exact hb.cell 0
    · exact hb.cell 1
    · exact hb.cell 2
    · exact hb.cell 3
  obtain ⟨q, hq⟩ : ∃ q : Nat, q = f / 64 := ⟨_, rfl⟩
  have hqi : (f : Int) / 64 = (q : Int) := by omega
  have HQ := Lib.hid hq
  clear hq
  have hmx : ∀ ts t w, (Builtin.max_ ts t #[.int .i64 0, .int .i64 (f : Int)]).run Tryd.prog w = .ok (.int .i64 (f : Int)) w := fun ts t w => by
    rw [run_max_int2]
    congr 2
    split <;> omega
  go_enter Tryd.func85, Tryd.ntmps85
  go_wp2
  go_loopw [5] (fun i wr => ∃ k : Nat, q ≤ k ∧ (k ≤ 4 ∨ k = q) ∧ i = .int .i64 k ∧ Hid (∀ j, f ≤ j → j < 64 * k → hasN l j = false) ∧ Below w.heap.size w wr ∧ Blk wr w.heap.size 24 #[.int .u64 (l.getD 0 0 : Nat), .int .u64 (l.getD 1 0 : Nat), .int .u64 (l.getD 2 0 : Nat), .int .u64 (l.getD 3 0 : Nat)]) (fun i _ => 4 - (intOf i).toNat)
  case atStart => exact ⟨q, by omega, by omega, rfl, fun j h1 h2 => by have := HQ.out; omega, (by repeat (first | exact Below.refl _ _ | assumption | refine Below.drew ?_ | refine below_drewN ?_ _ | refine Below.alloc ?_ (by first | omega | (simp; omega) | simp) _ | refine Below.setCell ?_ (by first | omega | (simp; omega) | simp) _)), blk_at rfl⟩
  case round =>
    obtain ⟨i, hqk, hi4, rfl, HG, hbw, hb⟩ := hrel
    by_cases hi : i < 4
    · have hc := (hblk wr).out i hi hb
      have hx := HL.out i
      generalize hxx : l.getD i 0 = x at hc hx
      have HX := Lib.hid hxx
      clear hxx
      have hi0 : (0 : Int) ≤ (i : Int) := by omega
      have hi1 : (i : Int) < 4 := by omega
      cases hiq : ((i : Int) == (q : Int))
      · have hgap : ∀ j, f ≤ j → j < 64 * i + 0 → hasN l j = false := HG.out
        have HI : Hid (q < i) := by
          show q < i
          rcases Nat.lt_or_eq_of_le hqk with h | h
          · exact h
          · subst h; simp at hiq
        cases hx0 : ((x : Int) != 0)
        · have hxz : x = 0 := by simp at hx0; omega
          have HN : Hid (∀ j, f ≤ j → j < 64 * (i + 1) → hasN l j = false) := gap_word HX.out 0 hgap (by simp [hxz])
          clear hxz hgap
          go_wp2
          go_roundw
          case rel => exact ⟨i + 1, by omega, by omega, by go_num, HN, hbw, hb⟩
          case measure => simp [intOf]; omega
        · have hxz : x ≠ 0 := by simp at hx0; omega
          have HN : Hid (FirstIs l f ((64 * i + Lib.ctz 64 x : Nat) : Int)) := by
            have := first_word hi HX.out hx 0 (by omega) (by have := HI.out; have := HQ.out; omega) hgap (by simpa using hxz)
            rw [show x / 2 ^ 0 * 2 ^ 0 = x from by simp] at this
            exact this
          have HC : Hid (Lib.ctz 64 x < 64) := (ctz_is x hxz hx).2.1
          clear hgap
          go_wp2_with fail
          refine (tz_any x hx hxz _ (HT.out.below hbw hpos)).mono ?_
          rintro e w' ⟨rfl, rfl⟩
          have hc64 := HC.out
          generalize Lib.ctz 64 x = c at HN hc64 ⊢
          go_wp2
          go_ret
          exact ⟨_, rfl, by have := HN.out; rw [show ((i : Int) * 64 + (c : Int)) = ((64 * i + c : Nat) : Int) from by omega]; exact this, hbw⟩
      · have hiq' : i = q := by simp at hiq; omega
        subst hiq'
        obtain ⟨k, hk⟩ : ∃ k : Nat, k = f % 64 := ⟨_, rfl⟩
        have hfq := HQ.out
        have hand : bits .and .i64 (f : Int) 63 = (k : Int) := by rw [and63 f (by omega), hk]
        have hk64 : k < 64 := by omega
        have hk0 : (0 : Int) ≤ (k : Int) := by omega
        have HF : Hid (f = 64 * i + k) := by show f = 64 * i + k; omega
        clear hk hfq
        have hcut : IntKind.u64.wrap ((x : Int) / 2 ^ k * 2 ^ k) = ((x / 2 ^ k * 2 ^ k : Nat) : Int) := by
          have hle : x / 2 ^ k * 2 ^ k ≤ x := Nat.div_mul_le_self _ _
          rw [show (x : Int) / 2 ^ k * 2 ^ k = ((x / 2 ^ k * 2 ^ k : Nat) : Int) from by simp, IntKind.wrap_u64]
          omega
        have hle : x / 2 ^ k * 2 ^ k ≤ x := Nat.div_mul_le_self _ _
        have hgap : ∀ j, f ≤ j → j < 64 * i + k → hasN l j = false := fun j h1 h2 => by have := HF.out; omega
        obtain ⟨y, hy⟩ : ∃ y, x / 2 ^ k * 2 ^ k = y := ⟨_, rfl⟩
        rw [hy] at hcut hle
        cases hy0 : ((y : Int) != 0)
        · have hyz : y = 0 := by simp at hy0; omega
          have HN : Hid (∀ j, f ≤ j → j < 64 * (i + 1) → hasN l j = false) := gap_word HX.out k hgap (by rw [hy]; exact hyz)
          clear hyz hgap hy
          go_wp2
          go_roundw
          case rel => exact ⟨i + 1, by omega, by omega, by go_num, HN, hbw, hb⟩
          case measure => simp [intOf]; omega
        · have hyz : y ≠ 0 := by simp at hy0; omega
          have HN : Hid (FirstIs l f ((64 * i + Lib.ctz 64 y : Nat) : Int)) := by
            have := first_word hi HX.out hx k hk64 (by have := HF.out; omega) hgap (by rw [hy]; exact hyz)
            rw [hy] at this
            exact this
          have hy64 : y < 18446744073709551616 := by omega
          have HC : Hid (Lib.ctz 64 y < 64) := (ctz_is y hyz hy64).2.1
          clear hgap hy
          go_wp2_with fail
          refine (tz_any y hy64 hyz _ (HT.out.below hbw hpos)).mono ?_
          rintro e w' ⟨rfl, rfl⟩
          have hc64 := HC.out
          generalize Lib.ctz 64 y = c at HN hc64 ⊢
          go_wp2
          go_ret
          exact ⟨_, rfl, by have := HN.out; rw [show ((i : Int) * 64 + (c : Int)) = ((64 * i + c : Nat) : Int) from by omega]; exact this, hbw⟩
    · go_wp2
      go_ret
      exact ⟨_, rfl, .inr ⟨rfl, fun j h1 h2 => HG.out j h1 (by omega)⟩, hbw⟩
end Go.Proofs.YtndhbdbfjkmloaaDoor
