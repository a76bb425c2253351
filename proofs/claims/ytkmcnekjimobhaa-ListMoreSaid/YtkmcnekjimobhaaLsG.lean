/- Lists of texts are compared and searched (slices.Equal, Index, Contains). -/
import Derived.Test.YtkmcnekjimobhaaGF
import Derived.Test.YtkmcnekjimobhaaGH
import Derived.BigQuiet
import Derived.Deep.QuietTactic
namespace Go.Proofs.Ytkmcnekjimobhaa
open Go.RowKit

theorem data_inj' {u v : ByteArray} (h : u.data.toList = v.data.toList) : u = v := by
  obtain ⟨⟨u⟩⟩ := u
  obtain ⟨⟨v⟩⟩ := v
  simp at h
  rw [h]
theorem strs_len {w : World} {B n : Nat} {A : Option Addr} {ls : List ByteArray} (h : Reads w B 1 A n (ls.map Value.string)) : ls.length = n := by
  have := h.len
  simpa using this

/-- where a text stands first -/
def idxS (s : ByteArray) : List ByteArray → Nat → Int
  | [], _ => -1
  | x :: l, j => if s.data.toList = x.data.toList then (j : Int) else idxS s l (j + 1)
theorem idxS_ge (s : ByteArray) : ∀ (l : List ByteArray) (j : Nat), (decide (0 ≤ idxS s l j)) = decide (s ∈ l)
  | [], j => by simp [idxS]
  | x :: l, j => by
    unfold idxS
    by_cases h : s.data.toList = x.data.toList
    · rw [if_pos h, data_inj' h]; simp
    · rw [if_neg h, idxS_ge s l (j + 1)]
      have : s ≠ x := fun e => h (by rw [e])
      simp [this]
set_option maxRecDepth 100000 in
theorem indexS_any (A : Option Addr) (n c : Nat) (l : List ByteArray) (B : Nat) (s : ByteArray) (w : World) (h : Reads w B 1 A n (l.map Value.string)) (hn : n ≤ 4611686018427387904) :
    Calls Try.prog 76 #[.slice A n c, .string s] w fun e w' => e = .returned (.int .i64 (idxS s l 0)) ∧ ∃ d, w' = w.drewN d := by
  have HL := Lib.hid (strs_len h)
  have HX : Hid (idxS s l 0 = idxS s (l.drop 0) 0) := by exact rfl
  generalize idxS s l 0 = y at HX ⊢
  go_enter Try.func76, Try.ntmps76
  go_wp2
  go_loopw [8] (fun i wr => ∃ j d : Nat, j ≤ n ∧ i = .int .i64 j ∧ Hid (y = idxS s (l.drop j) j) ∧ wr = w.drewN d) (fun i _ => n - (intOf i).toNat)
  case atStart => exact ⟨0, 0, by omega, rfl, HX, rfl⟩
  case round =>
    obtain ⟨j, d, hj, rfl, HR, rfl⟩ := hrel
    by_cases hjn : j < n
    · obtain ⟨ad, x, rfl, hab, hg, e0⟩ := reads_str h hjn
      have hq := toList_eq_iff s x
      have HD := Lib.hid (drop_of hg)
      clear hg
      by_cases heq : s.data.toList = x.data.toList
      · have HE : Hid (y = (j : Int)) := HR.out.trans (by rw [HD.out, idxS, if_pos heq])
        rw [decide_eq_true heq] at hq
        clear heq
        go_wp2
        go_ret
        exact ⟨ret_int HE.out.symm, d, rfl⟩
      · have HE : Hid (y = idxS s (l.drop (j + 1)) (j + 1)) := HR.out.trans (by rw [HD.out, idxS, if_neg heq])
        rw [decide_eq_false heq] at hq
        clear heq
        go_wp2
        go_roundw
        case rel => exact ⟨j + 1, d, by omega, by go_num, HE, rfl⟩
        case measure => simp [intOf]; omega
    · obtain rfl : j = n := by omega
      have HE : Hid (y = -1) := HR.out.trans (by rw [List.drop_of_length_le (by rw [HL.out]; omega), idxS])
      go_wp2
      go_ret
      exact ⟨ret_int HE.out.symm, d, rfl⟩
set_option maxRecDepth 100000 in
theorem containsS_any (A : Option Addr) (n c : Nat) (l : List ByteArray) (B : Nat) (s : ByteArray) (w : World) (h : Reads w B 1 A n (l.map Value.string)) (hn : n ≤ 4611686018427387904) :
    Calls Try.prog 41 #[.slice A n c, .string s] w fun e w' => e = .returned (.bool (decide (s ∈ l))) ∧ ∃ d, w' = w.drewN d := by
  have hix := indexS_any A n c l B s w h hn
  have HIX := Lib.hid hix
  have HG : Hid (decide (0 ≤ idxS s l 0) = decide (s ∈ l)) := idxS_ge s l 0
  generalize idxS s l 0 = y at HIX HG
  clear hix
  go_enter Try.func41, Try.ntmps41
  go_wp2_with fail
  refine HIX.out.mono ?_
  rintro e w' ⟨rfl, d, rfl⟩
  go_wp2
  go_ret
  exact ⟨ret_bool HG.out, d, rfl⟩
end Go.Proofs.Ytkmcnekjimobhaa
