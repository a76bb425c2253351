/- ListMore: is there a text of one list that is not in the other? -/
import Derived.Test.YtkmcnekjimobhaaLsG
namespace Go.Proofs.Ytkmcnekjimobhaa
open Go.RowKit

/-- where something holds first -/
def idxQ (p : ByteArray → Bool) : List ByteArray → Nat → Int
  | [], _ => -1
  | x :: l, j => if p x then (j : Int) else idxQ p l (j + 1)
theorem idxQ_no (p : ByteArray → Bool) : ∀ (l : List ByteArray) (j : Nat), (∀ x ∈ l, p x = false) → idxQ p l j = -1
  | [], _, _ => rfl
  | x :: l, j, h => by
    unfold idxQ
    rw [if_neg (by rw [h x (by simp)]; decide)]
    exact idxQ_no p l (j + 1) fun y hy => h y (by simp [hy])
set_option maxRecDepth 100000 in
theorem lm1_any {L : List ByteArray} {A : Option Addr} {n c lb B : Nat} {w : World} (bl : Blk w lb 79 #[.slice A n c]) (hL : Reads w B 1 A n (L.map Value.string)) (hn : n ≤ 4611686018427387904) (s : ByteArray) :
    Calls Try.prog 40 #[.string s, .pointer (some ⟨lb, 0, none⟩)] w fun e w' => e = .returned (.bool (!decide (s ∈ L))) ∧ Below w.heap.size w w' := by
  have HC := Lib.hid (containsS_any A n c L B s w hL hn)
  have g0 : w.cell? ⟨lb, 0, none⟩ = some (.slice A n c) := bl.cell 0
  clear hL bl
  generalize decide (s ∈ L) = y at HC ⊢
  go_enter Try.func40, Try.ntmps40
  go_wp2_with fail
  refine HC.out.mono ?_
  rintro e w1 ⟨rfl, d, rfl⟩
  go_wp2
  go_ret
  exact ⟨rfl, below_drewN (Below.refl _ _) d⟩

/-- the texts asked are all in the list -/
def LmQ (w : World) (e : Ending) (w' : World) : Prop := e = .returned (.int .i64 (-1)) ∧ Below w.heap.size w w'
set_option maxRecDepth 100000 in
set_option maxHeartbeats 4000000 in
theorem lmI_any {L M : List ByteArray} {A Am : Option Addr} {n c lb B nm cm Bm : Nat} {w : World} (bl : Blk w lb 79 #[.slice A n c]) (hL : Reads w B 1 A n (L.map Value.string)) (hB : B ≤ w.heap.size) (hn : n ≤ 4611686018427387904)
    (hM : Reads w Bm 1 Am nm (M.map Value.string)) (hBm : Bm ≤ w.heap.size) (hnm : nm ≤ 4611686018427387904) (hsub : ∀ s ∈ M, s ∈ L) :
    Calls Try.prog 75 #[.slice Am nm cm, .func (.func 40) #[] #[.pointer (some ⟨lb, 0, none⟩)]] w (LmQ w) := by
  have hc := fun (W : World) (hb : Below w.heap.size w W) (s : ByteArray) => lm1_any (bl.below hb bl.lt) (hL.below (hb.mono hB)) hn s
  have HC := Lib.hid hc
  have HS := Lib.hid hsub
  have HQ : Hid (∀ w', Below w.heap.size w w' → LmQ w (.returned (.int .i64 (-1))) w') := fun w' hb => ⟨rfl, hb⟩
  generalize LmQ w = Q at HQ ⊢
  have HM := Lib.hid hM
  clear hc bl hL hsub hM
  go_enter Try.func75, Try.ntmps75
  go_wp2
  go_loopw [5, 8] (fun _ i wr => ∃ j : Nat, j ≤ nm ∧ i = .int .i64 j ∧ Below w.heap.size w wr) (fun _ i _ => nm - (intOf i).toNat)
  case atStart => exact ⟨0, by omega, rfl, Below.refl _ _⟩
  case round =>
    obtain ⟨j, hj, rfl, hwr⟩ := hrel
    have hwz := hwr.size
    by_cases hjn : j < nm
    · obtain ⟨ad, x, rfl, hab, hg, e0⟩ := reads_str HM.out hjn
      have e1 : wr.cell? (ad.add j) = some (.string x) := (hwr.cell (by rw [add_block]; omega)).trans e0
      have hcx := HC.out wr hwr x
      rw [decide_eq_true (HS.out x (List.mem_of_getElem? hg))] at hcx
      have HCX := Lib.hid hcx
      have hji : (j : Int) < (nm : Int) := by omega
      clear hg hcx e0
      go_wp2_with fail
      refine HCX.out.mono ?_
      rintro e w2 ⟨rfl, hb2⟩
      have hw2 := hwr.trans (hb2.mono hwz)
      clear hb2
      go_wp2
      go_roundw
      case rel => exact ⟨j + 1, by omega, by go_num, hw2⟩
      case measure => simp [intOf]; omega
    · obtain rfl : j = nm := by omega
      go_wp2
      exact HQ.out _ hwr
set_option maxRecDepth 100000 in
theorem lmF_any {L M : List ByteArray} {A Am : Option Addr} {n c lb B nm cm Bm : Nat} {w : World} (bl : Blk w lb 79 #[.slice A n c]) (hL : Reads w B 1 A n (L.map Value.string)) (hB : B ≤ w.heap.size) (hn : n ≤ 4611686018427387904)
    (hM : Reads w Bm 1 Am nm (M.map Value.string)) (hBm : Bm ≤ w.heap.size) (hnm : nm ≤ 4611686018427387904) (hsub : ∀ s ∈ M, s ∈ L) :
    Calls Try.prog 39 #[.slice Am nm cm, .func (.func 40) #[] #[.pointer (some ⟨lb, 0, none⟩)]] w fun e w' => e = .returned (.bool false) ∧ Below w.heap.size w w' := by
  have HI := Lib.hid (lmI_any bl hL hB hn hM hBm hnm hsub (cm := cm))
  clear bl hL hM hsub
  go_enter Try.func39, Try.ntmps39
  go_wp2_with fail
  refine HI.out.mono ?_
  rintro e w1 ⟨rfl, hb1⟩
  go_wp2
  go_ret
  exact ⟨rfl, hb1⟩
end Go.Proofs.Ytkmcnekjimobhaa
