/- The walk of the law WalkMany: it returns true, and what was there stays as it was. -/
import Derived.Test.YtkoenjnjkapfmaaStr3
namespace Go.Proofs.Ytkoenjnjkapfmaa
open Go.RowKit

theorem below_of_drew {w w' : World} {B : Nat} (h : ∃ d, w' = w.drewN d) : Below B w w' := by
  obtain ⟨d, rfl⟩ := h
  exact below_drewN (Below.refl _ _) d
theorem abc_ok : AlphaOk (⟨#[97, 98, 99]⟩ : ByteArray).data.toList := by
  refine ⟨by decide, by decide, fun i h1 h2 => ?_⟩
  have : i < 3 := h2
  rcases (by omega : i = 1 ∨ i = 2) with rfl | rfl <;> decide

theorem rank_lt_many {a l : List UInt8} (h : OverA a l) (n : Nat) : rank a l < shN a.length (n + 1) ↔ l.length ≤ n := by
  have hb := rank_bd h
  constructor
  · intro h1
    rcases Nat.lt_or_ge n l.length with h2 | h2
    · have := shN_mono (m := a.length) (show n + 1 ≤ l.length by omega); omega
    · exact h2
  · intro h1
    have := shN_mono (m := a.length) (show l.length + 1 ≤ n + 1 by omega); omega

theorem walk_WalkMany (a s : ByteArray) (n : Int) (ha : a.size ≤ 140737488351232) (hs : s.size ≤ 140737488351232) (hn : I64 n) (w : World) :
    Calls Try.prog 7 #[.string a, .string s, .int .i64 n] w fun e w' => e = .returned (.bool true) ∧ Below w.heap.size w w' := by
  have HLA := Lib.hid (size_list a)
  have HLS := Lib.hid (size_list s)
  go_enter Try.func7, Try.ntmps7
  go_wp2_with fail
  refine (many_any _ 2 _ ?_ (by unfold I64; omega)).mono ?_
  · decide
  rintro e w1 ⟨⟨m, x, rfl, hx⟩, hd⟩
  obtain ⟨rfl, rfl⟩ : x = 0 ∧ m = 13 := by
    rcases hx with ⟨rfl, _, k, hk, _, rfl⟩ | ⟨_, _, h⟩
    · refine ⟨rfl, ?_⟩
      obtain rfl : k = 2 := by omega
      rfl
    · have := h abc_ok; omega
  have hw1 : Below w.heap.size w w1 := below_of_drew hd
  clear hx hd
  go_wp2_with fail
  refine (many_any a n _ ha hn).mono ?_
  rintro e w2 ⟨⟨m, x, rfl, hx⟩, hd⟩
  have hw2 := hw1.trans (below_of_drew hd)
  clear hd
  by_cases ho : OverOk a.data.toList s.data.toList
  · go_wp2_with fail
    refine (rank_yes a s _ ha hs ho).mono ?_
    rintro e w3 ⟨rfl, hd⟩
    have hw3 := hw2.trans (below_of_drew hd)
    clear hd
    rcases hx with ⟨rfl, _, k, rfl, hk, rfl⟩ | ⟨hx0, rfl, hno⟩
    · have hc := rank_lt_many ho.2.2 k
      have hlk := HLA.out
      rw [hlk] at hc
      rw [HLS.out] at hc
      generalize rank a.data.toList s.data.toList = R at hc ⊢
      generalize shN a.size (k + 1) = M at hc ⊢
      clear ho
      by_cases hle : s.size ≤ k
      · have h1 : R < M := hc.2 hle
        clear hc
        go_wp2
        go_ret
        exact ⟨rfl, hw3⟩
      · have h1 : ¬ R < M := fun h => hle (hc.1 h)
        clear hc
        go_wp2
        go_ret
        exact ⟨rfl, hw3⟩
    · have hne : (x != 0) = true := by simpa using hx0
      have hne' : (x == 0) = false := by simpa using hx0
      clear hno hx0
      go_wp2
      go_ret
      exact ⟨rfl, hw3⟩
  · go_wp2_with fail
    refine (rank_no a s _ ha hs ho).mono ?_
    rintro e w3 ⟨⟨y, rfl, hy⟩, hd⟩
    have hw3 := hw2.trans (below_of_drew hd)
    have hny : (y != 0) = true := by simpa using hy
    clear hd hy ho
    rcases hx with ⟨rfl, _, k, rfl, hk, rfl⟩ | ⟨hx0, rfl, hno⟩
    · go_wp2
      go_ret
      exact ⟨rfl, hw3⟩
    · have hne : (x != 0) = true := by simpa using hx0
      have hne' : (x == 0) = false := by simpa using hx0
      clear hno hx0
      go_wp2
      go_ret
      exact ⟨rfl, hw3⟩
end Go.Proofs.Ytkoenjnjkapfmaa
