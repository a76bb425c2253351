/- chaffkeep's whole: all texts that a grammar accepts. -/
import Derived.Test.YtkmcnekjimobhaaLsD
import Derived.Test.YtkmcnekjimobhaaLsF
namespace Go.Proofs.Ytkmcnekjimobhaa
open Go.RowKit

/-- what whole answers -/
def WholeQ (g : List Rl) (a : ByteArray) (k : Nat) (w : World) (e : Ending) (w' : World) : Prop := Below w.heap.size w w' ∧
  ((¬ LookOk g a k ∧ ∃ x, x ≠ 0 ∧ x ≠ 11 ∧ e = .returned (.tuple #[.slice none 0 0, .int .i64 x])) ∨
   (LookOk g a k ∧ ∃ V cp l, l = allL (accG g) a.data.toList k ∧ e = .returned (.tuple #[.slice V l.length cp, .int .i64 0]) ∧ w'.ownsRow w.heap.size 9 1 (.slice V l.length cp) l.length (l.map Value.string)))

set_option maxRecDepth 100000 in
set_option maxHeartbeats 4000000 in
theorem whole_any {g : List Rl} {A : Option Addr} {cp : Nat} {row : Nat → List Value} {w : World} (h : GrIs w w.heap.size g A cp row) (hwf : ∀ r ∈ g, WfE r.2) (a : ByteArray) (k : Nat) (ha : a.size ≤ 140737488351232) (hk : k ≤ 6) :
    Calls Try.prog 38 #[.agg #[.slice A g.length cp], .string a, .int .i64 k] w (WholeQ g a k w) := by
  have hls := fun W (hW : Below w.heap.size w W) => list_any (h.grow hW) hwf a k ha ⟨by omega, by omega⟩ (⟨#[]⟩, false) (by decide) 1048576
  unfold curV at hls
  have HLS := Lib.hid hls
  have HQ1 : Hid (∀ w' x, Below w.heap.size w w' → ¬ LookOk g a k → x ≠ 0 → x ≠ 11 → WholeQ g a k w (.returned (.tuple #[.slice none 0 0, .int .i64 x])) w') := fun w' x hb h0 h1 h2 => ⟨hb, .inl ⟨h0, x, h1, h2, rfl⟩⟩
  have HQ2 : Hid (∀ w' V c l, Below w.heap.size w w' → LookOk g a k → l = allL (accG g) a.data.toList k → w'.ownsRow w.heap.size 9 1 (.slice V l.length c) l.length (l.map Value.string) → WholeQ g a k w (.returned (.tuple #[.slice V l.length c, .int .i64 0])) w') := fun w' V c l hb h0 h1 h2 => ⟨hb, .inr ⟨h0, V, c, l, h1, rfl, h2⟩⟩
  clear hls h hwf
  generalize WholeQ g a k w = Q at HQ1 HQ2 ⊢
  go_enter Try.func38, Try.ntmps38
  go_wp2_with fail
  refine (HLS.out _ (by repeat (first | exact Below.refl _ _ | assumption | refine Below.drew ?_ | refine below_drewN ?_ _ | refine Below.alloc ?_ (by first | omega | (simp; omega) | simp) _ | refine Below.setCell ?_ (by first | omega | (simp; omega) | simp) _))).mono ?_
  rintro e w1 ⟨hb1, hq⟩
  have hw1 : Below w.heap.size w w1 := ((Below.refl _ w).alloc (Nat.le_refl _) _).trans (hb1.mono (by simp))
  have hz1 := hw1.size
  clear hb1
  rcases hq with ⟨hl, x, h0, h11, rfl⟩ | ⟨hl, hbad, rfl⟩ | ⟨hl, hok, V, c, l, c', hll, rfl, hown⟩
  · have HQ := fun w' hb => HQ1.out w' x hb hl h0 h11
    have HQ' := Lib.hid HQ
    have hxb : (x == 0) = false := by rw [beq_eq_false_iff_ne]; exact h0
    unfold curV
    clear HQ hl h0 h11 HQ1 HQ2 HLS
    go_wp2
    exact HQ'.out _ (by repeat (first | exact Below.refl _ _ | assumption | refine Below.drew ?_ | refine below_drewN ?_ _ | refine Below.alloc ?_ (by first | omega | (simp; omega) | simp) _ | refine Below.setCell ?_ (by first | omega | (simp; omega) | simp) _))
  · exact absurd ⟨by decide, by decide, cur_start hl.2.1 _⟩ hbad
  · have hl' := hl
    obtain ⟨-, hao, k', hkk, -, h5⟩ := hl'
    have hlen : a.data.toList.length = a.size := size_list a
    have hkn : (k : Int).toNat = k := by simp
    have h5' : shN a.data.toList.length (k + 1) ≤ (1048576 : Int).toNat := by rw [hlen, show k = k' by omega]; show _ ≤ 1048576; omega
    rw [hkn, listL_all h5'] at hll
    injection hll with hll1 hll2
    subst hll2
    have HQ := fun w' hb ho => HQ2.out w' V c l hb hl hll1.symm ho
    have HQ' := Lib.hid HQ
    unfold curV
    clear HQ HQ1 HQ2 HLS hok h5 h5' hao hkk hll1 hl hlen
    go_wp2
    exact HQ'.out _ (by repeat (first | exact Below.refl _ _ | assumption | refine Below.drew ?_ | refine below_drewN ?_ _ | refine Below.alloc ?_ (by first | omega | (simp; omega) | simp) _ | refine Below.setCell ?_ (by first | omega | (simp; omega) | simp) _)) (ownsRow_low (own_below hown ((Below.refl _ _).alloc (Nat.le_refl _) _)) (by simp))
end Go.Proofs.Ytkmcnekjimobhaa
