/- What chaffkeep.roomy, chaffkeep.spoil and slices.Clone of ints do. -/
import Derived.Test.YtkoenjnjkapfmaaCovM
import Derived.WalkSpells
namespace Go.Proofs.Ytkoenjnjkapfmaa
open Go.RowKit

theorem only_setCell {a w : World} {g i : Nat} (h : a.grownBy w (some g)) (u : Value) : a.grownBy (w.setCell ⟨g, i, none⟩ u) (some g) :=
  ⟨h.os, h.tape, h.output, by simpa [World.setCell] using h.size, fun k hk hne => (Below.heap_setCell w ⟨g, i, none⟩ u k (by rintro rfl; exact hne rfl)).trans (h.block k hk hne)⟩

theorem take_set {l : List Value} {i : Nat} (u : Value) (h : i < l.length) : (l.set i u).take (i + 1) = l.take i ++ [u] := by
  rw [List.take_add_one, List.take_set_of_le (Nat.le_refl _)]
  simp [h]

theorem roomy_any (A : Option Addr) (n c : Nat) (zs : List Int) (x : Int) (B : Nat) (w : World) (hr : Reads w B 1 A n (ints zs)) (hB : B ≤ w.heap.size) (hA : A = none → c = 0) (hn : Small n) :
    Calls Try.prog 20 #[.slice A n c, .int .i64 x] w fun e w' =>
      ∃ g cs, e = .returned (.slice (some ⟨g, 0, none⟩) n (n + 3)) ∧ w.heap.size ≤ g ∧ Blk w' g 3 cs ∧ cs.toList = ints (zs ++ [x, x, x]) ∧ Below w.heap.size w w' := by
  obtain ⟨i0, hi0, hz0, hz1, hz2⟩ := info_parts int_info
  have hl := hr.ints_len
  have HL := Lib.hid hl
  unfold Small at hn
  clear hl
  have hmk := fun W => made_run Try.underlying29 hi0 hz0 .i64 .i64 (Nat.zero_le (n + 3)) (by rw [hz2]; omega) (by omega) W
  rw [hz1] at hmk
  have hmk' : ∀ W : World, (Instr.makeSlice 29 (.int .i64 0) (.int .i64 ((n : Int) + 3))).run Try.prog W = .ok (.slice (some ⟨W.heap.size, 0, none⟩) 0 (n + 3)) (W.alloc (.cells (zeros (n + 3)) 3)) := hmk
  clear hmk
  have hnone : A = none → n = 0 ∧ c = 0 := fun h => by
    refine ⟨?_, hA h⟩
    rcases Nat.eq_zero_or_pos n with h0 | h0
    · exact h0
    · obtain ⟨ad, h', _⟩ := hr.lies h0
      rw [h] at h'
      cases h'
  have HN := Lib.hid hnone
  clear hnone hA
  have C1 : Hid ((w.alloc (.cells (zeros (n + 3)) 3)).ownsRow w.heap.size 3 1 (.slice (some ⟨w.heap.size, 0, none⟩) 0 (n + 3)) 0 []) :=
    ⟨rfl, .inr ⟨_, _, zeros (n + 3), rfl, Nat.le_refl _, blk_at rfl, by omega, by unfold maxLen; omega, by rw [zeros_size]; omega, by simp⟩⟩
  have C2 : Hid ((ints zs).length = n * 1) := by show (ints zs).length = n * 1; rw [ints_length, HL.out]; omega
  have C3 : Hid (∀ ad, A = some ad → ∀ j u, (ints zs)[j]? = some u → (w.alloc (.cells (zeros (n + 3)) 3)).cell? (ad.add j) = some u) := by
    intro ad hA j u hu
    have hj := getElem?_lt hu
    rw [ints_length, HL.out] at hj
    obtain ⟨ad', e, _, hc⟩ := (hr.alloc hB _).lies (by omega)
    rw [hA] at e
    injection e with e
    rw [e]
    exact hc j u hu
  go_enter Try.func20, Try.ntmps20
  go_wp2_with (at_builtin; refine wpList_append_fits_any _ rfl _ _ _ rfl w.heap.size 3 i0 1 Try.underlying29 hi0 hz1 w.heap.size 0 (n + 3) [] rfl C1.out A n c (ints zs) rfl C2.out HN.out C3.out (ints_one zs) (by omega) ?_; intro w1 hown1 hgrow)
  have hb1 : Below w.heap.size w w1 := ((Below.refl _ _).alloc (Nat.le_refl _) _).grown hgrow (by simp) (fun k hk => by injection hk with hk; omega)
  obtain ⟨cs0, hblk0, hs0, ht0⟩ : ∃ cs, Blk w1 w.heap.size 3 cs ∧ cs.size = n + 3 ∧ cs.toList.take (n + 0) = ints (zs ++ List.replicate 0 x) := by
    rcases hown1.2 with ⟨h, _⟩ | ⟨g, cap, cur, hv, hg, hh, h1, h2, h3, h4⟩
    · cases h
    · simp only [Value.slice.injEq, Option.some.injEq, Addr.mk.injEq] at hv
      obtain ⟨⟨rfl, _⟩, _, rfl⟩ := hv
      exact ⟨cur, hh, by omega, by simpa using h4⟩
  clear hown1 hgrow hmk'
  go_wp2
  go_loopw [6, 13] (fun _ i wr => ∃ k : Nat, k ≤ 3 ∧ i = .int .i64 k ∧ (∃ cs, Blk wr w.heap.size 3 cs ∧ cs.size = n + 3 ∧ cs.toList.take (n + k) = ints (zs ++ List.replicate k x)) ∧ Below w.heap.size w wr) (fun _ i _ => 3 - (intOf i).toNat)
  case atStart => exact ⟨0, by omega, rfl, ⟨cs0, hblk0, hs0, ht0⟩, hb1⟩
  case round =>
    obtain ⟨k, hk, rfl, ⟨cs, hblk, hs, ht⟩, hbw⟩ := hrel
    have HT := Lib.hid ht
    have HS := Lib.hid hs
    clear ht hs
    by_cases hk3 : k < 3
    · have hcell := hblk.cell (n + k)
      have hfz := hblk.frozen (n + k)
      rw [Array.getElem?_eq_getElem (by rw [HS.out]; omega)] at hcell
      generalize cs[n + k]'(by rw [HS.out]; omega) = u0 at hcell
      go_wp2
      go_roundw
      case rel =>
        refine ⟨k + 1, by omega, by go_num, ⟨_, hblk.set_ (n + k) (.int .i64 x), by simp [HS.out], ?_⟩, hbw.setCell (Nat.le_refl _) _⟩
        rw [← Nat.add_assoc, Array.toList_setIfInBounds, take_set _ (by rw [Array.length_toList, HS.out]; omega), HT.out, List.replicate_succ', ints_append, ints_append, ints_append, List.append_assoc]
        rfl
      case measure => simp [intOf]; omega
    · obtain rfl : k = 3 := by omega
      go_wp2
      go_ret
      refine ⟨w.heap.size, cs, rfl, Nat.le_refl _, hblk, ?_, hbw⟩
      have h2 := HT.out
      rw [List.take_of_length_le (by rw [Array.length_toList, HS.out]; omega)] at h2
      exact h2

/-- spoil writes x into each cell of a row that is known whole -/
theorem spoil_any (g n m : Nat) (cs : Array Value) (x : Int) (B : Nat) (w0 w : World) (hb : Blk w g 3 cs) (hs : cs.size = m) (hm : m ≤ 4611686018427387904) (hw : Below B w0 w) (hg : B ≤ g) :
    Calls Try.prog 22 #[.slice (some ⟨g, 0, none⟩) n m, .int .i64 x] w fun e w' => e = .returned (.tuple #[]) ∧ Below B w0 w' ∧ (∃ cs', Blk w' g 3 cs') ∧ w.grownBy w' (some g) := by
  have HS := Lib.hid hs
  clear hs
  go_enter Try.func22, Try.ntmps22
  go_wp2
  go_loopw [4, 11] (fun _ i wr => ∃ k : Nat, k ≤ m ∧ i = .int .i64 k ∧ (∃ cs, Blk wr g 3 cs ∧ cs.size = m) ∧ Below B w0 wr ∧ w.grownBy wr (some g)) (fun _ i _ => m - (intOf i).toNat)
  case atStart => exact ⟨0, by omega, rfl, ⟨cs, hb, HS.out⟩, hw, World.grownBy.refl _ _⟩
  case round =>
    obtain ⟨k, hk, rfl, ⟨cs, hblk, hs⟩, hbw, hgw⟩ := hrel
    have HS := Lib.hid hs
    clear hs
    by_cases hkm : k < m
    · have hcell := hblk.cell k
      have hfz := hblk.frozen k
      rw [Array.getElem?_eq_getElem (by rw [HS.out]; omega)] at hcell
      generalize cs[k]'(by rw [HS.out]; omega) = u0 at hcell
      go_wp2
      go_roundw
      case rel =>
        exact ⟨k + 1, by omega, by go_num, ⟨_, hblk.set_ k (.int .i64 x), by simp [HS.out]⟩, hbw.setCell hg _, only_setCell hgw _⟩
      case measure => simp [intOf]; omega
    · go_wp2
      go_end0
      exact ⟨rfl, hbw, ⟨cs, hblk⟩, hgw⟩

theorem clone_any (A : Option Addr) (n c : Nat) (zs : List Int) (B : Nat) (w : World) (hr : Reads w B 1 A n (ints zs)) (hB : B ≤ w.heap.size) (hA : A = none → c = 0) (hn : Small n) :
    Calls Try.prog 21 #[.slice A n c] w fun e w' =>
      ∃ V c, e = .returned (.slice V n c) ∧ w'.ownsRow w.heap.size 3 1 (.slice V n c) n (ints zs) ∧ Below w.heap.size w w' := by
  have hnone : A = none → n = 0 := fun h => by
    rcases Nat.eq_zero_or_pos n with h0 | h0
    · exact h0
    · obtain ⟨ad, h', _⟩ := hr.lies h0
      rw [h] at h'
      cases h'
  cases A with
  | none =>
    obtain rfl := hnone rfl
    obtain rfl := hA rfl
    have hz : zs = [] := by have := hr.ints_len; exact List.eq_nil_of_length_eq_zero this
    subst hz
    have he := fun w => Lib.run_eql_slice_nil (P := Try.prog) w 29 3 none 0 0 0 0 Try.underlying29
    go_enter Try.func21, Try.ntmps21
    go_wp2
    go_ret
    exact ⟨none, 0, rfl, ⟨rfl, .inl ⟨rfl, rfl⟩⟩, Below.refl _ _⟩
  | some ad =>
    obtain ⟨i0, hi0, hz0, hz1, hz2⟩ := info_parts int_info
    have HL := Lib.hid hr.ints_len
    unfold Small at hn
    have he := fun w => Lib.run_eql_slice_nil (P := Try.prog) w 29 3 (some ad) n c 0 0 Try.underlying29
    have C1 : Hid ((w.alloc (.cells #[] 3)).ownsRow w.heap.size 3 1 (.slice (some ⟨w.heap.size, 0, none⟩) 0 0) 0 []) :=
      ⟨rfl, .inr ⟨_, _, #[], rfl, Nat.le_refl _, blk_at rfl, by omega, by unfold maxLen; omega, rfl, rfl⟩⟩
    have C2 : Hid ((ints zs).length = n * 1) := by show (ints zs).length = n * 1; rw [ints_length, HL.out]; omega
    have C3 : Hid (∀ j u, (ints zs)[j]? = some u → (w.alloc (.cells #[] 3)).cell? (ad.add j) = some u) := by
      intro j u hu
      have hj := getElem?_lt hu
      rw [ints_length, HL.out] at hj
      obtain ⟨ad', e, _, hc⟩ := (hr.alloc hB _).lies (by omega)
      injection e with e
      rw [e]
      exact hc j u hu
    clear hA hnone
    go_enter Try.func21, Try.ntmps21
    go_wp2_with (at_builtin; refine wpList_append_own_at _ rfl _ _ _ rfl w.heap.size 3 i0 _ 1 8 Try.underlying29 hi0 hz0 hz1 hz2 rfl (by omega) _ 0 [] rfl C1.out ad n c (ints zs) rfl C2.out C3.out (ints_one zs) (by unfold maxLen; omega) (by omega) (by simp) ?_; intro v' w1 hown1 hgrow hnil hat; obtain ⟨V, c', rfl⟩ := own_form hown1)
    go_ret
    rw [Nat.zero_add] at *
    exact ⟨V, c', rfl, hown1, below_app ((Below.refl _ _).alloc (Nat.le_refl _) _) C1.out hgrow (by simp) (Nat.le_refl _)⟩
end Go.Proofs.Ytkoenjnjkapfmaa
