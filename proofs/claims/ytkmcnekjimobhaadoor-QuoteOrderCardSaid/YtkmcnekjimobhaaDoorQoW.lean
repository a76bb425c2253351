/- QuoteOrder: the walk of the law. -/
import Derived.Test.YtkmcnekjimobhaaDoorQoP
import Derived.Test.YtkmcnekjimobhaaDoorShI
import Derived.Test.YtkmcnekjimobhaaDoorShT
import Derived.Test.YtkmcnekjimobhaaDoorBase
import Derived.Lib.SmallJoins
namespace Go.Proofs.YtkmcnekjimobhaaDoor
open Go.RowKit

def itoaB (n : Int) : ByteArray := ⟨(Lib.itoa n).toArray⟩
theorem itoaB_list (n : Int) : (itoaB n).data.toList = Lib.itoa n := rfl
theorem itoaB_size (n : Int) : (itoaB n).size = (Lib.itoa n).length := by show (Lib.itoa n).toArray.size = _; simp
abbrev TabP (w : World) : Prop := Lib.TabIs Tryd.prog w "internal/strconv.uint64pow10" .u64 Lib.pow10Tab
theorem gPow : Tryd.prog.globalNamed "internal/strconv.uint64pow10" = some 3 := by kernel_rfl
theorem TabP.below {w w' : World} (h : TabP w) (hg : 3 < w.heap.size) (hb : Below w.heap.size w w') : TabP w' := by
  unfold TabP Lib.TabIs at h ⊢
  unfold World.var? at h ⊢
  rw [gPow] at h ⊢
  simp only [Option.bind_some] at h ⊢
  rw [hb.block _ hg]
  exact h
theorem grow_below (B : Nat) (w : World) (os : Array Obj) (h : B ≤ w.heap.size) : Below B w (Sort.grow w os) :=
  ⟨rfl, rfl, rfl, by simp [Sort.grow], fun k hk => by simp [Sort.grow, Array.getElem?_append, Nat.lt_of_lt_of_le hk h]⟩
theorem grow_below2 (w : World) (k : Nat) (os : Array Obj) : Below w.heap.size w (Sort.grow (w.drewN k) os) :=
  (below_drewN (Below.refl _ w) k).trans (grow_below _ _ _ (by simp))

set_option maxRecDepth 100000 in
theorem qdec_any (n : Int) (hn : I64 n) (w : World) (hT : TabP w) : Calls Tryd.prog 10 #[.int .i64 n] w fun e w' => e = .returned (.string (itoaB n)) ∧ Below w.heap.size w w' := by
  obtain ⟨h0, h1⟩ := hn
  have hi := sh_strconv_Itoa n h0 h1 w hT
  have HI := Lib.hid hi
  clear hi hT
  go_enter Tryd.func10, Tryd.ntmps10
  go_wp2_with fail
  refine HI.out.mono ?_
  rintro e w1 ⟨rfl, k, os, rfl⟩
  have hb := grow_below2 w k os
  generalize Sort.grow (w.drewN k) os = w1 at hb ⊢
  go_wp2
  go_ret
  exact ⟨rfl, hb⟩
theorem TabP.lt {w : World} (h : TabP w) : 3 < w.heap.size := by
  unfold TabP Lib.TabIs World.var? at h
  rw [gPow] at h
  simp only [Option.bind_some] at h
  rcases Nat.lt_or_ge 3 w.heap.size with h1 | h1
  · exact h1
  · rw [Array.getElem?_eq_none h1] at h
    cases h
theorem TabP.on {w w' : World} (h : TabP w) (hb : Below w.heap.size w w') : TabP w' := h.below h.lt hb
theorem atoi_below {w w' : World} (h : w' = w ∨ ∃ t, w' = Lib.bytesWorld w 5 t) : Below w.heap.size w w' := by
  rcases h with rfl | ⟨t, rfl⟩
  · exact Below.refl _ _
  · exact Joins.below_bytesWorld _ _ _ _ (Nat.le_refl _)
set_option maxRecDepth 100000 in
theorem undec_any (n : Int) (hn : I64 n) (w : World) (hT : TabP w) : Calls Tryd.prog 11 #[.string (itoaB n)] w fun e w' => e = .returned (.tuple #[.int .i64 (undN n).1, .int .i64 (undN n).2]) ∧ Below w.heap.size w w' := by
  obtain ⟨h0, h1⟩ := hn
  have hlen : (Lib.itoa n).length ≤ 21 := Lib.itoa_length_le n h0 h1
  have ha := sh_strconv_Atoi_ok (itoaB n) (by rw [itoaB_size]; omega) n (by rw [itoaB_list]; exact atoi_itoa h0 h1) w
  have hi := fun W (hW : Below w.heap.size w W) => sh_strconv_Itoa n h0 h1 W (hT.on hW)
  have hsz := itoaB_size n
  have hu : undN n = if 9 < (itoaB n).size ∨ n < 0 then (0, 3) else (n, 0) := by rw [hsz]; rfl
  rw [hu]
  have hs21 : (itoaB n).size ≤ 21 := by rw [hsz]; exact hlen
  have hi2 := fun W (hW : Below w.heap.size w W) => (hi W hW).mono (R' := fun e w' => e = .returned (.string (itoaB n)) ∧ Below W.heap.size W w') fun e w' ⟨he, k, os, hk⟩ => ⟨he, by rw [hk]; exact grow_below2 _ _ _⟩
  clear hi
  generalize itoaB n = s at ha hi2 hs21 ⊢
  have HA := Lib.hid ha
  have HI := Lib.hid hi2
  clear ha hi2 hT hsz hu hlen
  by_cases hl : 9 < s.size
  · have hl1 : (9 : Int) < (s.size : Int) := by omega
    rw [if_pos (.inl hl)]
    go_enter Tryd.func11, Tryd.ntmps11
    go_wp2_with fail
    refine HA.out.mono ?_
    rintro e w1 ⟨rfl, hw⟩
    have hb := atoi_below hw
    clear hw
    go_wp2
    go_ret2
    exact ⟨rfl, hb⟩
  · have hl1 : ¬ (9 : Int) < (s.size : Int) := by omega
    by_cases hn : n < 0
    · rw [if_pos (.inr hn)]
      go_enter Tryd.func11, Tryd.ntmps11
      go_wp2_with fail
      refine HA.out.mono ?_
      rintro e w1 ⟨rfl, hw⟩
      have hb := atoi_below hw
      clear hw
      go_wp2
      go_ret2
      exact ⟨rfl, hb⟩
    · rw [if_neg (by omega)]
      go_enter Tryd.func11, Tryd.ntmps11
      go_wp2_with fail
      refine HA.out.mono ?_
      rintro e w1 ⟨rfl, hw⟩
      have hb := atoi_below hw
      clear hw
      go_wp2_with fail
      refine (HI.out _ hb).mono ?_
      rintro e w2 ⟨rfl, hb2⟩
      have hb3 := hb.trans (hb2.mono hb.size)
      go_wp2
      go_ret2
      exact ⟨rfl, hb3⟩
theorem itoaB_inj {a b : Int} (ha : I64 a) (hb : I64 b) (h : itoaB a = itoaB b) : a = b := by
  have h1 : (itoaB a).data.toList = (itoaB b).data.toList := by rw [h]
  exact itoa_inj ha.1 ha.2 hb.1 hb.2 h1
theorem und_in {a : Int} (h0 : 0 ≤ a) (h9 : a < 1000000000) : undN a = (a, 0) := by
  have := itoa_nine h0 h9
  unfold undN
  rw [if_neg (by omega)]
theorem und_neg {a : Int} (h : a < 0) : undN a = (0, 3) := by
  unfold undN
  rw [if_pos (.inr h)]
theorem und_big {a : Int} (h : 999999999 < a) : undN a = (0, 3) := by
  unfold undN
  rw [if_pos (.inl (itoa_ten h))]
theorem minus_seven : itoaB (-7) = ⟨#[45, 55]⟩ := by
  unfold itoaB Lib.itoa
  rw [if_pos (by decide), dd_small (by decide)]
  rfl
theorem bytes_inj {s t : ByteArray} (h : s.toList = t.toList) : s = t := by
  rw [ByteArray.toList_eq, ByteArray.toList_eq] at h
  obtain ⟨s⟩ := s
  obtain ⟨t⟩ := t
  exact congrArg ByteArray.mk (Array.toList_inj.1 h)
instance lawfulBytes : LawfulBEq ByteArray where
  rfl := by
    intro a
    obtain ⟨a⟩ := a
    show (a == a) = true
    simp
  eq_of_beq := by
    intro a b h
    obtain ⟨a⟩ := a
    obtain ⟨b⟩ := b
    have h' : (a == b) = true := h
    rw [eq_of_beq h']
set_option maxRecDepth 100000 in
set_option maxHeartbeats 4000000 in
theorem walk_QuoteOrder (a b : Int) (ha : I64 a) (hb : I64 b) (w : World) (hT : TabP w) : Calls Tryd.prog 4 #[.int .i64 a, .int .i64 b] w fun e w' => e = .returned (.bool true) ∧ Below w.heap.size w w' := by
  have HA := Lib.hid (fun W (hW : Below w.heap.size w W) => qdec_any a ha W (hT.on hW))
  have HB := Lib.hid (fun W (hW : Below w.heap.size w W) => qdec_any b hb W (hT.on hW))
  have h7 := fun W (hW : Below w.heap.size w W) => qdec_any (-7) (by unfold I64; omega) W (hT.on hW)
  rw [minus_seven] at h7
  have H7 := Lib.hid h7
  have hun := fun W (hW : Below w.heap.size w W) => undec_any a ha W (hT.on hW)
  have hl : 0 ≤ a → 0 ≤ b → (itoaB a).size < (itoaB b).size → a < b := fun h1 h2 h3 => itoa_less h1 h2 (by rw [itoaB_size, itoaB_size] at h3; exact h3)
  have hin := itoaB_inj ha hb
  have hsa : (itoaB a).size ≤ 21 := by rw [itoaB_size]; exact Lib.itoa_length_le a ha.1 ha.2
  have hsb : (itoaB b).size ≤ 21 := by rw [itoaB_size]; exact Lib.itoa_length_le b hb.1 hb.2
  obtain ⟨a0, a1⟩ := ha
  obtain ⟨b0, b1⟩ := hb
  have hleaf : a < 0 ∨ (0 ≤ a ∧ b < 0) ∨ (0 ≤ a ∧ 0 ≤ b ∧ (itoaB b).size ≤ (itoaB a).size) ∨ (0 ≤ a ∧ 0 ≤ b ∧ ¬ (itoaB b).size ≤ (itoaB a).size ∧ a < b) := by
    rcases Int.lt_or_le a 0 with h1 | h1
    · exact .inl h1
    · rcases Int.lt_or_le b 0 with h2 | h2
      · exact .inr (.inl ⟨h1, h2⟩)
      · by_cases h4 : (itoaB b).size ≤ (itoaB a).size
        · exact .inr (.inr (.inl ⟨h1, h2, h4⟩))
        · exact .inr (.inr (.inr ⟨h1, h2, h4, hl h1 h2 (by omega)⟩))
  have hund : (a < 0 ∧ undN a = (0, 3)) ∨ (999999999 < a ∧ undN a = (0, 3)) ∨ (0 ≤ a ∧ a < 1000000000 ∧ undN a = (a, 0)) := by
    rcases Int.lt_or_le a 0 with h1 | h1
    · exact .inl ⟨h1, und_neg h1⟩
    · by_cases h2 : 999999999 < a
      · exact .inr (.inl ⟨h2, und_big h2⟩)
      · exact .inr (.inr ⟨h1, by omega, und_in h1 (by omega)⟩)
  clear hl h7 hT
  rcases hund with ⟨u1, hu⟩ | ⟨u1, hu⟩ | ⟨u1, u2, hu⟩
  all_goals
    rw [hu] at hun
    have HU := Lib.hid hun
    clear hun hu
    rcases hleaf with l1 | ⟨l1, l2⟩ | ⟨l1, l2, l3⟩ | ⟨l1, l2, l3, l4⟩
  all_goals
    first | (exfalso; omega) | skip
  all_goals
    first | (have f0 : 0 ≤ a := by omega) | (have f0 : ¬ (0 ≤ a) := by omega) | skip
    first | (have f1 : a < 0 := by omega) | (have f1 : ¬ (a < 0) := by omega) | skip
    first | (have f2 : a < 1000000000 := by omega) | (have f2 : ¬ (a < 1000000000) := by omega) | skip
    first | (have f3 : 999999999 < a := by omega) | (have f3 : ¬ (999999999 < a) := by omega) | skip
    first | (have f4 : b < 0 := by omega) | (have f4 : ¬ (b < 0) := by omega) | skip
    first | (have f5 : a < b := by omega) | (have f5 : ¬ (a < b) := by omega) | skip
    have hq : (a = b ∧ (itoaB a == itoaB b) = true ∧ (a == b) = true ∧ itoaB a = itoaB b) ∨ (a ≠ b ∧ (itoaB a == itoaB b) = false ∧ (a == b) = false) := by
      by_cases h : a = b
      · exact .inl ⟨h, by rw [h]; exact beq_self_eq_true _, by rw [h]; exact beq_self_eq_true _, by rw [h]⟩
      · exact .inr ⟨h, beq_eq_false_iff_ne.2 fun e => h (hin e), beq_eq_false_iff_ne.2 h⟩
    clear hin
    rcases hq with ⟨h, q1, q2, q3⟩ | ⟨h, q1, q2⟩
  all_goals
    first | (exfalso; omega) | skip
  all_goals
    first | (clear q3; subst h) | skip
    first | (have f7 : ((itoaB b).size : Int) ≤ ((itoaB a).size : Int) := by omega) | (have f7 : ¬ (((itoaB b).size : Int) ≤ ((itoaB a).size : Int)) := by omega) | (have f7 : ((itoaB a).size : Int) ≤ ((itoaB a).size : Int) := by omega) | skip
    generalize itoaB a = s at *
    first | generalize itoaB b = t at * | skip
    first | (have q4 : ¬ s = t := fun e => by rw [e] at q1; simp at q1) | skip
    first | (have q8 : ¬ s.toList = t.toList := fun e => q4 (bytes_inj e)) | skip
    first | clear q1 q4 | skip
    go_enter Tryd.func4, Tryd.ntmps4
    go_wp2_with fail
    refine (HA.out _ (Below.refl _ _)).mono ?_
    rintro e w1 ⟨rfl, hb1⟩
    go_wp2_with fail
    refine (HB.out _ hb1).mono ?_
    rintro e w2 ⟨rfl, hb2⟩
    have hw2 := hb1.trans (hb2.mono hb1.size)
    clear hb1 hb2
    go_wp2_with fail
    refine (HU.out _ hw2).mono ?_
    rintro e w3 ⟨rfl, hb3⟩
    have hw3 := hw2.trans (hb3.mono hw2.size)
    clear hw2 hb3
    go_wp2_with fail
    refine (H7.out _ hw3).mono ?_
    rintro e w4 ⟨rfl, hb4⟩
    have hw4 := hw3.trans (hb4.mono hw3.size)
    clear hw3 hb4
    go_wp2
    go_ret
    exact ⟨by first | (simp; done) | (simp; assumption), hw4⟩
end Go.Proofs.YtkmcnekjimobhaaDoor
