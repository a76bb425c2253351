/- (*runner).run of alternatives, and of what has one kid. -/
import Derived.Test.YtjmckmjngnmagaaMrC
namespace Go.Proofs.Ytjmckmjngnmagaa
open Go.RowKit Go.Maps

set_option maxRecDepth 100000 in
set_option maxHeartbeats 8000000 in
theorem mr_alt {c : RC} {n : Nat} (hR : ∀ m, m ≤ n → DoesRun c m) {w : World} {l : Nat} (h : Rn c w (l + 1) false) (hl : l + 1 ≤ lots) (a b d1 d2 : Int) (t : ByteArray) (ks : List Ex) (p : Nat) (o : Option Nat) (cs : List Value)
    (hev : evA c.g c.s.data.toList n ks p = some o) (hE : ExIs w c.B (.mk 6 a b d1 d2 t ks) cs) (hRt : ∀ e ∈ ks, RtW c.g e) (hp : p ≤ c.s.data.toList.length) :
    Calls Try.prog 53 #[.pointer (some ⟨c.R, 0, none⟩), .agg cs.toArray, .int .i64 p] w (Gone c (l + 1) (1 + cost c.g c.s.data.toList n (.alt ks) p) o w) := by
  have hBR := c.BR
  have hB : c.B ≤ w.heap.size := by have := h.blk.lt; omega
  obtain ⟨ht, KA, kcp, rfl, hkc, hkm, _⟩ := hE.shape
  unfold exCells
  have hlt := h.blk.lt
  have s2 := h.c2
  have s3 := h.c3
  have f2 := h.fr 2
  have hpl : ((l + 1 : Nat) : Int) = (l : Int) + 1 := by omega
  rw [hpl] at s2
  have hl0 : ((l : Int) + 1 == 0) = false := by rw [beq_eq_false_iff_ne]; omega
  have hne : w.heap.size ≠ c.R := by omega
  have hl' : l + 1 ≤ 2000000 := hl
  have HN := Lib.hid (RunC.start h #[.int .i64 6, .int .u64 a, .int .u64 b, .int .u64 d1, .int .u64 d2, .string t, .slice KA ks.length kcp])
  clear h hl
  have hm8 : ks.length ≤ 9223372036854775807 := by unfold maxLen at hkm; omega
  generalize hC : cost c.g c.s.data.toList n (.alt ks) p = C
  have HEV : Hid (evA c.g c.s.data.toList n (ks.drop 0) p = some o) := hev
  have HAC : Hid (l - cost c.g c.s.data.toList n (.alt (ks.drop 0)) p = l - C ∧ (l < cost c.g c.s.data.toList n (.alt (ks.drop 0)) p ↔ l < C)) := ⟨by rw [List.drop_zero, hC], by rw [List.drop_zero, hC]⟩
  have HE := Lib.hid hE
  have HR := Lib.hid hR
  have HRT := Lib.hid hRt
  have HP := Lib.hid hp
  clear hC hev hR hE hRt hp
  go_enter Try.func53, Try.ntmps53
  go_wp2
  go_loopw [133] (fun i wr => ∃ j : Nat, j ≤ ks.length ∧ i = .int .i64 j ∧
    ∃ m L' : Nat, m ≤ n ∧ Hid (evA c.g c.s.data.toList m (ks.drop j) p = some o) ∧ Hid (L' - cost c.g c.s.data.toList m (.alt (ks.drop j)) p = l - C ∧ (L' < cost c.g c.s.data.toList m (.alt (ks.drop j)) p ↔ l < C)) ∧ L' ≤ l ∧ RunC c w L' false #[.int .i64 6, .int .u64 a, .int .u64 b, .int .u64 d1, .int .u64 d2, .string t, .slice KA ks.length kcp] wr) (fun i _ => ks.length - (intOf i).toNat)
  case atStart => exact ⟨0, by omega, rfl, n, l, Nat.le_refl _, HEV, HAC, Nat.le_refl _, HN.out⟩
  case round =>
    clear HEV HAC HN s2 s3 f2
    obtain ⟨j, hj, rfl, m, L', hm, HEV, HAC, hLL, h0⟩ := hrel
    by_cases hjk : j < ks.length
    · have hbw : Below c.B w wr := h0.keeps.below hB hBR
      obtain ⟨ad, k', a', b', c', d', t', ks', A', cp', rfl, hab, hej, hE', ⟨e0, e1, e2, e3, e4, e5, e6⟩⟩ := (HE.out.on hbw).kid hjk
      have hmem := List.mem_of_getElem? hej
      have hev := HEV.out
      have hac := HAC.out
      rw [drop_of hej] at hev hac
      cases m with
      | zero => cases hev
      | succ m =>
      rw [evA_cons] at hev
      cases he : ev c.g c.s.data.toList m (.mk k' a' b' c' d' t' ks') p with
      | none => rw [he] at hev; cases hev
      | some u =>
      rw [he] at hev
      rw [cost_alt he] at hac
      have hzw := h0.rn.blk.lt
      have hx1 := h0.alloc (.cells #[.int .i64 k', .int .u64 a', .int .u64 b', .int .u64 c', .int .u64 d', .string t', .slice A' ks'.length cp'] 35)
      have hcall := HR.out m (by omega) _ p u _ _ L' he (hE'.on ((Below.refl _ _).alloc (by omega) (.cells #[.int .i64 k', .int .u64 a', .int .u64 b', .int .u64 c', .int .u64 d', .string t', .slice A' ks'.length cp'] 35))) (HRT.out _ hmem) HP.out hx1.rn (by unfold lots; omega)
      generalize hce : cost c.g c.s.data.toList m (.ex (.mk k' a' b' c' d' t' ks')) p = ce at hac hcall
      unfold exCells at hcall
      have HCL := Lib.hid hcall
      have HEV2 := Lib.hid hev
      have HAC2 := Lib.hid hac
      have hjl : (j : Int) < (ks.length : Int) := by omega
      clear hcall hev hac he HEV HAC hce hE' hmem hej
      go_wp2_with fail
      refine HCL.out.mono ?_
      rintro e' w2 ⟨⟨z, rfl, hz⟩, h1, h2⟩
      have hk2 : KeepR c w w2 := (h0.keeps.alloc _).trans h2
      have hac := HAC2.out
      have hbx2 := h2.box hx1.box (by omega)
      have s3 := h1.c3
      by_cases hlc : L' < ce
      · rw [if_pos hlc] at hz ⊢
        have hLC : l < C := hac.2.1 (by omega)
        rw [decide_eq_true hlc] at s3 h1
        go_wp2
        go_ret2
        exact Gone.up (w1 := w) ⟨by rw [if_pos hLC]; exact ⟨z, rfl, fun tz ht => by cases ht⟩, by rw [show l - C = L' - ce by omega, decide_eq_true hLC]; exact h1, hk2⟩ (KeepR.refl c w)
      · rw [if_neg hlc] at hz ⊢
        rw [decide_eq_false hlc] at s3 h1
        cases u with
        | some tz1 =>
          obtain rfl := hz tz1 rfl
          obtain rfl : o = some tz1 := by have := HEV2.out; simp at this; exact this.symm
          simp only [Option.elim_some, Nat.add_zero] at hac
          have hLC : ¬ l < C := fun hc => hlc (hac.2.2 hc)
          go_wp2
          go_ret2
          exact Gone.up (w1 := w) ⟨by rw [if_neg hLC]; exact ⟨tz1, rfl, fun tz ht => by injection ht with ht; rw [ht]⟩, by rw [← hac.1, decide_eq_false hLC]; exact h1, hk2⟩ (KeepR.refl c w)
        | none =>
          simp only [Option.elim_none] at hac
          go_wp2
          go_roundw
          case rel => exact ⟨j + 1, by omega, by go_num, m, L' - ce, by omega, HEV2, Lib.hid ⟨by have := hac.1; omega, fun h => hac.2.1 (by omega), fun h => by have := hac.2.2 h; omega⟩, by omega, ⟨h1, hk2, hbx2⟩⟩
          case measure => simp [intOf]; omega
    · obtain rfl : j = ks.length := by omega
      have hev := HEV.out
      have hac := HAC.out
      rw [List.drop_length] at hev hac
      have hq2 : o = none ∧ L' = l - C ∧ ¬ l < C := by
        cases m with
        | zero => cases hev
        | succ m =>
          rw [evA_nil] at hev
          injection hev with hev
          have h0 : cost c.g c.s.data.toList (m + 1) (.alt []) p = 0 := rfl
          rw [h0] at hac
          exact ⟨hev.symm, by have := hac.1; omega, fun h => by have := hac.2.2 h; omega⟩
      obtain ⟨rfl, rfl, hLC⟩ := hq2
      go_wp2
      go_ret2
      exact Gone.up (w1 := w) ⟨by rw [if_neg hLC]; exact ⟨0, rfl, fun tz ht => by cases ht⟩, by rw [decide_eq_false hLC]; exact h0.rn, h0.keeps⟩ (KeepR.refl c w)
end Go.Proofs.Ytjmckmjngnmagaa
