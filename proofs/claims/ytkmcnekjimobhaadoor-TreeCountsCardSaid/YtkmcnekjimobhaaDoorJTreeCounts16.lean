/- (*runner).run of alternatives, and of what has one kid. (*runner).run of what has one kid. (*runner).run whole, by induction on the fuel; mean.Run. The law PackRest: plain; outcomes compared; what stands ahead makes no difference. mean.Run: what it answers. The contract of strings.Count, laid by the kit's shelf at this seat (wip/shelf.py writes this text anew for another seat). The walk of the law TreeCounts. -/
import Derived.Test.YtkmcnekjimobhaaDoorJTreeCounts15
import Derived.BigQuiet
import Derived.Deep.QuietTactic
import Derived.Test.YtkmcnekjimobhaaDoorJTreeCounts11
import Derived.Test.YtkmcnekjimobhaaDoorJTreeCounts12
import Derived.Shelf.Strings.Builder1
import Derived.Shelf.Strings.BuilderF
import Derived.Shelf.Strings.BuilderK
import Derived.Shelf.Strconv.Atoi
import Derived.Shelf.Strconv.Itoa0
import Derived.Shelf.Strconv.Itoa1
import Derived.Shelf.LaysM
import Derived.Shelf.Strconv.Itoa2
import Derived.Shelf.Strconv.Itoa3
import Derived.Shelf.Strconv.AtoiErrFast
import Derived.Shelf.Strconv.ParseIntEmpty
import Derived.Shelf.Strconv.AtoiFail
import Derived.Shelf.Strconv.Clone
import Derived.Shelf.Strconv.SyntaxError
import Derived.Shelf.LaysC
import Derived.Shelf.Strconv.ToError
import Derived.Shelf.Strconv.Lower
import Derived.Shelf.Strconv.ParseUint10
import Derived.Shelf.Strconv.ParseUint10Empty
import Derived.Shelf.Strconv.ParseUint10Any
import Derived.Shelf.Strconv.ParseInt10
import Derived.Shelf.Strconv.AtoiLong
import Derived.Shelf.Strconv.AtoiInnerAll
import Derived.Shelf.Strconv.RangeError
import Derived.Shelf.Strconv.ToErrorRange
import Derived.Shelf.Strconv.AtoiAll
import Derived.Shelf.Strings.Search1
import Derived.Shelf.Strings.Search2
import Derived.Shelf.Strings.Search3
import Derived.Shelf.Strings.Count
import Derived.Shelf.Strings.Shaped
import Derived.Test.YtkmcnekjimobhaaDoorProg
import Derived.Test.YtkmcnekjimobhaaDoorJTreeCounts6
namespace Go.Proofs.YtkmcnekjimobhaaDoor
open Go.RowKit Go.Maps

set_option maxRecDepth 100000 in
set_option maxHeartbeats 8000000 in
theorem mr_alt {c : RC} {n : Nat} (hR : ∀ m, m ≤ n → DoesRun c m) {w : World} {l : Nat} (h : Rn c w (l + 1) false) (hl : l + 1 ≤ lots) (a b d1 d2 : Int) (t : ByteArray) (ks : List Ex) (p : Nat) (o : Option Nat) (cs : List Value)
    (hev : evA c.g c.s.data.toList n ks p = some o) (hE : ExIs w c.B (.mk 6 a b d1 d2 t ks) cs) (hRt : ∀ e ∈ ks, RtW c.g e) (hp : p ≤ c.s.data.toList.length) :
    Calls Tryd.prog 18 #[.pointer (some ⟨c.R, 0, none⟩), .agg cs.toArray, .int .i64 p] w (Gone c (l + 1) (1 + cost c.g c.s.data.toList n (.alt ks) p) o w) := by
  have hBR := c.BR
  have hB : c.B ≤ w.heap.size := by have := h.blk.lt; omega
  obtain ⟨ht, KA, kcp, rfl, hkc, hkm, _⟩ := hE.shape
  unfold exCells
  have hlt := h.blk.lt
  have s2 := h.c2
  have s3 := h.c3
  have f2 := h.fr 2
  have hpl : ((l + 1 : Nat) : Int) = (l : Int) + 1 := by omega
  rw [hpl] at s2
  have hl0 : ((l : Int) + 1 == 0) = false := by rw [beq_eq_false_iff_ne]; omega
  have hne : w.heap.size ≠ c.R := by omega
  have hl' : l + 1 ≤ 2000000 := hl
  have HN := Lib.hid (RunC.start h #[.int .i64 6, .int .u64 a, .int .u64 b, .int .u64 d1, .int .u64 d2, .string t, .slice KA ks.length kcp])
  clear h hl
  have hm8 : ks.length ≤ 9223372036854775807 := by unfold maxLen at hkm; omega
  generalize hC : cost c.g c.s.data.toList n (.alt ks) p = C
  have HEV : Hid (evA c.g c.s.data.toList n (ks.drop 0) p = some o) := hev
  have HAC : Hid (l - cost c.g c.s.data.toList n (.alt (ks.drop 0)) p = l - C ∧ (l < cost c.g c.s.data.toList n (.alt (ks.drop 0)) p ↔ l < C)) := ⟨by rw [List.drop_zero, hC], by rw [List.drop_zero, hC]⟩
  have HE := Lib.hid hE
  have HR := Lib.hid hR
  have HRT := Lib.hid hRt
  have HP := Lib.hid hp
  clear hC hev hR hE hRt hp
  go_enter Tryd.func18, Tryd.ntmps18
  go_wp2
  go_loopw [133] (fun i wr => ∃ j : Nat, j ≤ ks.length ∧ i = .int .i64 j ∧
    ∃ m L' : Nat, m ≤ n ∧ Hid (evA c.g c.s.data.toList m (ks.drop j) p = some o) ∧ Hid (L' - cost c.g c.s.data.toList m (.alt (ks.drop j)) p = l - C ∧ (L' < cost c.g c.s.data.toList m (.alt (ks.drop j)) p ↔ l < C)) ∧ L' ≤ l ∧ RunC c w L' false #[.int .i64 6, .int .u64 a, .int .u64 b, .int .u64 d1, .int .u64 d2, .string t, .slice KA ks.length kcp] wr) (fun i _ => ks.length - (intOf i).toNat)
  case atStart => exact ⟨0, by omega, rfl, n, l, Nat.le_refl _, HEV, HAC, Nat.le_refl _, HN.out⟩
  case round =>
    clear HEV HAC HN s2 s3 f2
    obtain ⟨j, hj, rfl, m, L', hm, HEV, HAC, hLL, h0⟩ := hrel
    by_cases hjk : j < ks.length
    · have hbw : Below c.B w wr := h0.keeps.below hB hBR
      obtain ⟨ad, k', a', b', c', d', t', ks', A', cp', rfl, hab, hej, hE', ⟨e0, e1, e2, e3, e4, e5, e6⟩⟩ := (HE.out.on hbw).kid hjk
      have hmem := List.mem_of_getElem? hej
      have hev := HEV.out
      have hac := HAC.out
      rw [drop_of hej] at hev hac
      cases m with
      | zero => cases hev
      | succ m =>
      rw [evA_cons] at hev
      cases he : ev c.g c.s.data.toList m (.mk k' a' b' c' d' t' ks') p with
      | none => rw [he] at hev; cases hev
      | some u =>
      rw [he] at hev
      rw [cost_alt he] at hac
      have hzw := h0.rn.blk.lt
      have hx1 := h0.alloc (.cells #[.int .i64 k', .int .u64 a', .int .u64 b', .int .u64 c', .int .u64 d', .string t', .slice A' ks'.length cp'] 65)
      have hcall := HR.out m (by omega) _ p u _ _ L' he (hE'.on ((Below.refl _ _).alloc (by omega) (.cells #[.int .i64 k', .int .u64 a', .int .u64 b', .int .u64 c', .int .u64 d', .string t', .slice A' ks'.length cp'] 65))) (HRT.out _ hmem) HP.out hx1.rn (by unfold lots; omega)
      generalize hce : cost c.g c.s.data.toList m (.ex (.mk k' a' b' c' d' t' ks')) p = ce at hac hcall
      unfold exCells at hcall
      have HCL := Lib.hid hcall
      have HEV2 := Lib.hid hev
      have HAC2 := Lib.hid hac
      have hjl : (j : Int) < (ks.length : Int) := by omega
      clear hcall hev hac he HEV HAC hce hE' hmem hej
      go_wp2_with fail
      refine HCL.out.mono ?_
      rintro e' w2 ⟨⟨z, rfl, hz⟩, h1, h2⟩
      have hk2 : KeepR c w w2 := (h0.keeps.alloc _).trans h2
      have hac := HAC2.out
      have hbx2 := h2.box hx1.box (by omega)
      have s3 := h1.c3
      by_cases hlc : L' < ce
      · rw [if_pos hlc] at hz ⊢
        have hLC : l < C := hac.2.1 (by omega)
        rw [decide_eq_true hlc] at s3 h1
        go_wp2
        go_ret2
        exact Gone.up (w1 := w) ⟨by rw [if_pos hLC]; exact ⟨z, rfl, fun tz ht => by cases ht⟩, by rw [show l - C = L' - ce by omega, decide_eq_true hLC]; exact h1, hk2⟩ (KeepR.refl c w)
      · rw [if_neg hlc] at hz ⊢
        rw [decide_eq_false hlc] at s3 h1
        cases u with
        | some tz1 =>
          obtain rfl := hz tz1 rfl
          obtain rfl : o = some tz1 := by have := HEV2.out; simp at this; exact this.symm
          simp only [Option.elim_some, Nat.add_zero] at hac
          have hLC : ¬ l < C := fun hc => hlc (hac.2.2 hc)
          go_wp2
          go_ret2
          exact Gone.up (w1 := w) ⟨by rw [if_neg hLC]; exact ⟨tz1, rfl, fun tz ht => by injection ht with ht; rw [ht]⟩, by rw [← hac.1, decide_eq_false hLC]; exact h1, hk2⟩ (KeepR.refl c w)
        | none =>
          simp only [Option.elim_none] at hac
          go_wp2
          go_roundw
          case rel => exact ⟨j + 1, by omega, by go_num, m, L' - ce, by omega, HEV2, Lib.hid ⟨by have := hac.1; omega, fun h => hac.2.1 (by omega), fun h => by have := hac.2.2 h; omega⟩, by omega, ⟨h1, hk2, hbx2⟩⟩
          case measure => simp [intOf]; omega
    · obtain rfl : j = ks.length := by omega
      have hev := HEV.out
      have hac := HAC.out
      rw [List.drop_length] at hev hac
      have hq2 : o = none ∧ L' = l - C ∧ ¬ l < C := by
        cases m with
        | zero => cases hev
        | succ m =>
          rw [evA_nil] at hev
          injection hev with hev
          have h0 : cost c.g c.s.data.toList (m + 1) (.alt []) p = 0 := rfl
          rw [h0] at hac
          exact ⟨hev.symm, by have := hac.1; omega, fun h => by have := hac.2.2 h; omega⟩
      obtain ⟨rfl, rfl, hLC⟩ := hq2
      go_wp2
      go_ret2
      exact Gone.up (w1 := w) ⟨by rw [if_neg hLC]; exact ⟨0, rfl, fun tz ht => by cases ht⟩, by rw [decide_eq_false hLC]; exact h0.rn, h0.keeps⟩ (KeepR.refl c w)
end Go.Proofs.YtkmcnekjimobhaaDoor
namespace Go.Proofs.YtkmcnekjimobhaaDoor
open Go.RowKit Go.Maps

theorem cost_kid {g : List Rl} {s : List UInt8} {n : Nat} {k : Int} {e : Ex} {p : Nat} {u : Option Nat} (hk : k ≠ 7) (h : ev g s n e p = some u) : cost g s (n + 1) (.kid k e) p = cost g s n (.ex e) p + (u.elim 0 fun q => if k = 8 then cost g s n (.rep e) q else 0) := by
  have hev : evJ g s n (.ex e) p = some u := h
  cases u with
  | none => simp only [cost, hev, if_neg hk, Nat.add_zero, Option.elim]
  | some tz =>
    by_cases h8 : k = 8
    · simp only [cost, hev, if_neg hk, if_pos h8, Option.elim]
    · simp only [cost, hev, if_neg hk, if_neg h8, Nat.add_zero, Option.elim]
theorem Rn.drewN {c : RC} {w : World} {L : Nat} {ov : Bool} (h : Rn c w L ov) (d : Nat) : Rn c (w.drewN d) L ov := ⟨h.blk.drewN d, h.gram.on (below_drewN (Below.refl _ _) d)⟩
theorem KeepR.drewN {c : RC} {w w' : World} (h : KeepR c w w') (d : Nat) : KeepR c w (w'.drewN d) := ⟨h.os, h.tape, h.output, h.size, h.blk⟩
theorem ret_some {tz : Nat} {z : Int} (h : z = (tz : Int)) : Ret (some tz) (.returned (.tuple #[.int .i64 z, .bool true])) := ⟨z, rfl, fun q hq => by injection hq with hq; rw [h, hq]⟩
theorem ret_none (z : Int) : Ret none (.returned (.tuple #[.int .i64 z, .bool false])) := ⟨z, rfl, fun q hq => by cases hq⟩
/-- short: it did not have enough steps -/
theorem Gone.short {c : RC} {l C x : Nat} {o : Option Nat} {w w' : World} {z : Int} (hx : l < x) (hC : x ≤ C) (hn : Rn c w' (l - x) true) (hk : KeepR c w w') : Gone c (l + 1) (1 + C) o w (.returned (.tuple #[.int .i64 z, .bool false])) w' := by
  refine ⟨?_, ?_, hk⟩
  · rw [if_pos (by omega)]; exact ret_none z
  · rw [show l + 1 - (1 + C) = l - x by omega, decide_eq_true (by omega)]; exact hn
theorem Gone.full {c : RC} {l C : Nat} {o : Option Nat} {w w' : World} {e : Ending} (hx : ¬ l < C) (hr : Ret o e) (hn : Rn c w' (l - C) false) (hk : KeepR c w w') : Gone c (l + 1) (1 + C) o w e w' := by
  refine ⟨?_, ?_, hk⟩
  · rw [if_neg (by omega)]; exact hr
  · rw [show l + 1 - (1 + C) = l - C by omega, decide_eq_false (by omega)]; exact hn

set_option maxRecDepth 100000 in
set_option maxHeartbeats 8000000 in
theorem mr_one {c : RC} (F : c.Fit) {n : Nat} (hR : ∀ m, m ≤ n → DoesRun c m) (hA : ∀ m, m ≤ n → DoesAgain c m) {w : World} {l : Nat} (h : Rn c w (l + 1) false) (hl : l + 1 ≤ lots) (k a b d1 d2 : Int) (t : ByteArray) (e : Ex) (p : Nat) (o : Option Nat) (cs : List Value) (h7 : 7 ≤ k) (h11 : k ≤ 11)
    (hev : evK c.g c.s.data.toList n k e p = some o) (hE : ExIs w c.B (.mk k a b d1 d2 t [e]) cs) (hRt : RtW c.g e) (hp : p ≤ c.s.data.toList.length) :
    Calls Tryd.prog 18 #[.pointer (some ⟨c.R, 0, none⟩), .agg cs.toArray, .int .i64 p] w (Gone c (l + 1) (1 + cost c.g c.s.data.toList n (.kid k e) p) o w) := by
  have hBR := c.BR
  have hB : c.B ≤ w.heap.size := by have := h.blk.lt; omega
  have H := fits_of F.right
  obtain ⟨ht, KA, kcp, rfl, hkc, hkm, _⟩ := hE.shape
  have hkl : ([e] : List Ex).length = 1 := rfl
  rw [hkl] at hE hkc ⊢
  clear hkl
  unfold exCells
  obtain ⟨ad, k', a', b', c', d', t', ks', A', cp', rfl, hab, hej, hE', hS⟩ := hE.kid (j := 0) (by simp)
  obtain rfl : e = .mk k' a' b' c' d' t' ks' := by simpa using hej
  rw [Nat.zero_mul] at hS
  have hS1 : Seven w ad k' a' b' c' d' t' A' ks'.length cp' := hS
  have hsv := fun W (hW : Below c.B w W) => hS1.keep (w' := W) fun q hq => hW.cell (by rw [hq]; exact hab)
  have hm8 : (1 : Nat) ≤ kcp := hkc
  unfold maxLen at hkm
  have hadR : ad.block ≠ c.R := by omega
  have hadR' : c.R ≠ ad.block := by omega
  have hadw : ad.block < w.heap.size := by omega
  have hcallR := fun (m : Nat) (q L' : Nat) (ov : Bool) (u : Option Nat) (W : World) (hm : m ≤ n) (he : ev c.g c.s.data.toList m (.mk k' a' b' c' d' t' ks') q = some u) (hq : q ≤ c.s.data.toList.length) (hk : KeepR c w W) (hW : Rn c W L' false) (hL' : L' ≤ lots) =>
    hR m hm _ q u _ W L' he (hE'.on (hk.below hB hBR)) hRt hq hW hL'
  have hcallA := fun (m : Nat) (q L' : Nat) (tz : Nat) (W : World) (hm : m ≤ n) (he : evR c.g c.s.data.toList m (.mk k' a' b' c' d' t' ks') q = some (some tz)) (hq : q ≤ c.s.data.toList.length) (hk : KeepR c w W) (hW : Rn c W L' false) (hL' : L' ≤ lots) =>
    hA m hm _ q tz _ W L' he (hE'.on (hk.below hB hBR)) hRt hq hW hL'
  unfold exCells at hcallR hcallA
  have HT := Lib.hid (fun (m q : Nat) (u : Option Nat) (hq : q ≤ c.s.data.toList.length) (he : ev c.g c.s.data.toList m (.mk k' a' b' c' d' t' ks') q = some u) => (told (s := c.s.data.toList) H m).1 _ q u hRt.1 hq he)
  have hlt := h.blk.lt
  have s2 := h.c2
  have s3 := h.c3
  have f2 := h.fr 2
  have hpl : ((l + 1 : Nat) : Int) = (l : Int) + 1 := by omega
  rw [hpl] at s2
  have hl0 : ((l : Int) + 1 == 0) = false := by rw [beq_eq_false_iff_ne]; omega
  have hne : w.heap.size ≠ c.R := by omega
  have hl' : l + 1 ≤ 2000000 := hl
  have HN := Lib.hid (RunC.start h #[.int .i64 k, .int .u64 a, .int .u64 b, .int .u64 d1, .int .u64 d2, .string t, .slice (some ad) 1 kcp])
  clear h hl
  obtain ⟨s10, s11, s12, s13, s14, s15, s16⟩ := hsv (w.setCell ⟨c.R, 2, none⟩ (.int .i64 l)) ((Below.refl _ _).setCell hBR _)
  have HR := Lib.hid hcallR
  have HA := Lib.hid hcallA
  have HSV := Lib.hid hsv
  have hk1 : (k == 1) = false := by rw [beq_eq_false_iff_ne]; omega
  have hk2 : (k == 2) = false := by rw [beq_eq_false_iff_ne]; omega
  have hk3 : (k == 3) = false := by rw [beq_eq_false_iff_ne]; omega
  have hk4 : (k == 4) = false := by rw [beq_eq_false_iff_ne]; omega
  have hk5 : (k == 5) = false := by rw [beq_eq_false_iff_ne]; omega
  have hk6 : (k == 6) = false := by rw [beq_eq_false_iff_ne]; omega
  generalize hX : (Ex.mk k' a' b' c' d' t' ks') = X at hev HR HA HT ⊢
  have hlo : l ≤ lots := by unfold lots; omega
  clear hS hsv hcallR hcallA hE hE' hRt hX hR hA H F hej ht
  cases n with
  | zero => cases hev
  | succ n =>
  rw [evK_s] at hev
  by_cases k7 : k = 7
  · subst k7
    rw [if_pos rfl] at hev
    obtain ⟨tz, rfl⟩ := evR_some _ _ _ _ hev
    have hc0 := HA.out n p l tz _ (by omega) hev hp HN.out.keeps HN.out.rn hlo
    rw [show cost c.g c.s.data.toList (n + 1) (.kid 7 X) p = cost c.g c.s.data.toList n (.rep X) p from rfl]
    generalize cost c.g c.s.data.toList n (.rep X) p = C at hc0 ⊢
    have HC0 := Lib.hid hc0
    clear hc0 hev HA HR HT HSV
    go_enter Tryd.func18, Tryd.ntmps18
    go_wp2_with fail
    refine HC0.out.mono ?_
    rintro e' w2 ⟨⟨z, rfl, hz⟩, h1, h2⟩
    have hkk : KeepR c w w2 := HN.out.keeps.trans h2
    have s3 := h1.c3
    by_cases hlc : l < C
    · rw [decide_eq_true hlc] at s3 h1
      go_wp2
      go_quiet (fail)
      go_wp2
      go_ret2
      exact Gone.short (C := C) hlc (Nat.le_refl _) (h1.drewN _) (hkk.drewN _)
    · rw [decide_eq_false hlc] at s3 h1
      obtain rfl := hz hlc
      go_wp2
      go_quiet (fail)
      go_wp2
      go_ret2
      exact Gone.full (C := C) hlc (ret_some rfl) (h1.drewN _) (hkk.drewN _)
  rw [if_neg k7] at hev
  have k7b : (k == 7) = false := by rw [beq_eq_false_iff_ne]; exact k7
  cases he : ev c.g c.s.data.toList n X p with
  | none => rw [he] at hev; cases hev
  | some u =>
  rw [he] at hev
  rw [cost_kid k7 he]
  have hc0 := HR.out n p l false u _ (by omega) he hp HN.out.keeps HN.out.rn hlo
  have ht := HT.out n p u hp he
  generalize cost c.g c.s.data.toList n (.ex X) p = C at hc0 ⊢
  generalize hC2 : (u.elim 0 fun q => if k = 8 then cost c.g c.s.data.toList n (.rep X) q else 0) = C2
  have HCC := Lib.hid hC2
  have HC0 := Lib.hid hc0
  have HTT := Lib.hid ht
  have HEV := Lib.hid hev
  clear hc0 hev HR HT ht he hC2
  go_enter Tryd.func18, Tryd.ntmps18
  by_cases k8 : k = 8
  · subst k8
    go_wp2_with fail
    refine HC0.out.mono ?_
    rintro e' w2 ⟨⟨z, rfl, hz⟩, h1, h2⟩
    have hkk : KeepR c w w2 := HN.out.keeps.trans h2
    have hbx := h2.box HN.out.box (by omega)
    by_cases hlc : l < C
    · rw [if_pos hlc] at hz ⊢
      rw [decide_eq_true hlc] at h1
      go_wp2
      go_ret2
      exact Gone.short hlc (Nat.le_add_right _ _) h1 hkk
    · rw [if_neg hlc] at hz ⊢
      rw [decide_eq_false hlc] at h1
      cases u with
      | none =>
        have hev := HEV.out
        simp only [Option.some.injEq] at hev
        rw [if_pos (by simp)] at hev
        subst hev
        obtain rfl : 0 = C2 := HCC.out
        go_wp2
        go_ret2
        exact Gone.full (C := C) hlc (ret_none 0) h1 hkk
      | some q =>
        have hev := HEV.out
        simp only at hev
        rw [if_pos trivial] at hev
        obtain ⟨tz, rfl⟩ := evR_some _ _ _ _ hev
        obtain rfl := hz q rfl
        have hq := HTT.out.2.1
        have hc1 := HA.out n q (l - C) tz w2 (by omega) hev hq hkk h1 (by unfold lots; omega)
        have hcq : cost c.g c.s.data.toList n (.rep X) q = C2 := HCC.out
        rw [hcq] at hc1
        clear hcq
        have HC1 := Lib.hid hc1
        obtain ⟨y0, y1, y2, y3, y4, y5, y6⟩ := HSV.out w2 (hkk.below hB hBR)
        have x6 : w2.cell? ⟨w.heap.size, 6, none⟩ = some (.slice (some ad) 1 kcp) := hbx.cell 6
        clear hc1 hev HA HSV HC0 s10 s11 s12 s13 s14 s15 s16 s2 s3 f2
        go_wp2_with fail
        refine HC1.out.mono ?_
        rintro e' w3 ⟨⟨z, rfl, hz3⟩, h3, h4⟩
        have hk3' : KeepR c w w3 := hkk.trans h4
        have s3 := h3.c3
        by_cases hlc2 : l - C < C2
        · rw [decide_eq_true hlc2] at s3 h3
          go_wp2
          go_quiet (fail)
          go_wp2
          go_ret2
          exact Gone.short (x := C + C2) (by omega) (Nat.le_refl _) (by rw [show l - (C + C2) = l - C - C2 by omega]; exact h3.drewN _) (hk3'.drewN _)
        · rw [decide_eq_false hlc2] at s3 h3
          obtain rfl := hz3 hlc2
          go_wp2
          go_quiet (fail)
          go_wp2
          go_ret2
          exact Gone.full (by omega) (ret_some rfl) (by rw [show l - (C + C2) = l - C - C2 by omega]; exact h3.drewN _) (hk3'.drewN _)
  have hc8 : C2 = 0 := by
    rw [← HCC.out]
    cases u with
    | none => rfl
    | some tz => rw [Option.elim_some, if_neg k8]
  subst hc8
  have k8b : (k == 8) = false := by rw [beq_eq_false_iff_ne]; exact k8
  have hk9 : k = 9 ∨ k = 10 ∨ k = 11 := by omega
  clear HA HSV HCC
  go_wp2_with fail
  refine HC0.out.mono ?_
  rintro e' w2 ⟨⟨z, rfl, hz⟩, h1, h2⟩
  have hkk : KeepR c w w2 := HN.out.keeps.trans h2
  have hbx := h2.box HN.out.box (by omega)
  have x0 : w2.cell? ⟨w.heap.size, 0, none⟩ = some (.int .i64 k) := hbx.cell 0
  clear s10 s11 s12 s13 s14 s15 s16 s2 s3 f2
  have s3 := h1.c3
  have hev := HEV.out
  clear HEV HC0 hbx
  by_cases hlc : l < C
  · rw [if_pos hlc] at hz ⊢
    rw [decide_eq_true hlc] at h1 s3
    rcases hk9 with rfl | rfl | rfl
    · go_wp2
      go_quiet (fail)
      go_wp2
      go_ret2
      exact Gone.short (C := C) hlc (Nat.le_refl _) (h1.drewN _) (hkk.drewN _)
    · go_wp2
      go_ret2
      exact Gone.short (C := C) hlc (Nat.le_refl _) h1 hkk
    · go_wp2
      go_quiet (fail)
      go_wp2
      go_ret2
      exact Gone.short (C := C) hlc (Nat.le_refl _) (h1.drewN _) (hkk.drewN _)
  · rw [if_neg hlc] at hz ⊢
    rw [decide_eq_false hlc] at h1 s3
    cases u with
    | none =>
      simp only [Option.some.injEq] at hev
      rcases hk9 with rfl | rfl | rfl
      · rw [if_neg (by decide)] at hev
        subst hev
        go_wp2
        go_quiet (fail)
        go_wp2
        go_ret2
        exact Gone.full (C := C) hlc (ret_some rfl) (h1.drewN _) (hkk.drewN _)
      · rw [if_pos (by decide)] at hev
        subst hev
        go_wp2
        go_ret2
        exact Gone.full (C := C) hlc (ret_none _) h1 hkk
      · rw [if_neg (by decide)] at hev
        subst hev
        go_wp2
        go_quiet (fail)
        go_wp2
        go_ret2
        exact Gone.full (C := C) hlc (ret_some rfl) (h1.drewN _) (hkk.drewN _)
    | some q =>
      obtain rfl := hz q rfl
      simp only at hev
      rcases hk9 with rfl | rfl | rfl
      · rw [if_neg (by decide), if_pos (by decide)] at hev
        simp only [Option.some.injEq] at hev
        subst hev
        go_wp2
        go_quiet (fail)
        go_wp2
        go_ret2
        exact Gone.full (C := C) hlc (ret_some rfl) (h1.drewN _) (hkk.drewN _)
      · rw [if_neg (by decide), if_neg (by decide), if_pos (by decide)] at hev
        simp only [Option.some.injEq] at hev
        subst hev
        go_wp2
        go_ret2
        exact Gone.full (C := C) hlc (ret_some rfl) h1 hkk
      · rw [if_neg (by decide), if_neg (by decide), if_neg (by decide)] at hev
        simp only [Option.some.injEq] at hev
        subst hev
        go_wp2
        go_quiet (fail)
        go_wp2
        go_ret2
        exact Gone.full (C := C) hlc (ret_none _) (h1.drewN _) (hkk.drewN _)
end Go.Proofs.YtkmcnekjimobhaaDoor
namespace Go.Proofs.YtkmcnekjimobhaaDoor
open Go.RowKit Go.Maps

theorem runs {c : RC} (F : c.Fit) : ∀ n, DoesRun c n := by
  intro n
  induction n using Nat.strongRecOn with
  | _ n ih =>
  intro e p o cs w L hev hE hRt hp h hL
  cases n with
  | zero => cases hev
  | succ n =>
  have hR : ∀ m, m ≤ n → DoesRun c m := fun m hm => ih m (by omega)
  have hA : ∀ m, m ≤ n → DoesAgain c m := fun m hm => again_any F fun k hk => hR k (by omega)
  have hlen := F.len
  have hpos := cost_pos _ _ _ _ _ _ hev
  cases L with
  | zero =>
    have := mr_zero h cs.toArray p _ hpos o
    exact this
  | succ l =>
  obtain ⟨hrt, hwf⟩ := hRt
  cases hrt with
  | mk k a b d1 d2 t ks hfit hname hkids =>
  cases hwf with
  | mk _ _ _ _ _ _ _ hk64 wa wb wc wd wks =>
  have hRk : ∀ e ∈ ks, RtW c.g e := fun e he => ⟨hkids e he, wks e he⟩
  rw [ev_s] at hev
  rw [cost_ex]
  rcases fit_cases hfit with ⟨rfl, h0⟩ | ⟨rfl, h0⟩ | ⟨rfl, h0, _, h60⟩ | ⟨rfl, h0, _⟩ | ⟨rfl, h2, h8⟩ | ⟨rfl, h2, h8⟩ | ⟨h7, h11, h1⟩
  · rw [if_pos rfl] at hev
    injection hev with hev
    subst hev
    rw [if_pos (by omega)]
    obtain ⟨_, A, cp, rfl, _⟩ := hE.shape
    exact mr_empty h hL a b d1 d2 t A _ cp p
  · rw [if_neg (by decide), if_pos rfl] at hev
    injection hev with hev
    subst hev
    rw [if_pos (by omega)]
    obtain ⟨_, A, cp, rfl, _⟩ := hE.shape
    obtain ⟨a, rfl, ha⟩ := u64_nat wa
    obtain ⟨b, rfl, hb⟩ := u64_nat wb
    obtain ⟨d1, rfl, hc⟩ := u64_nat wc
    obtain ⟨d2, rfl, hd⟩ := u64_nat wd
    exact mr_set h hL a b d1 d2 ha hb hc hd t A ks.length cp p hp hlen
  · rw [if_neg (by decide), if_neg (by decide), if_pos rfl] at hev
    injection hev with hev
    subst hev
    rw [if_pos (by omega)]
    obtain ⟨_, A, cp, rfl, _⟩ := hE.shape
    exact mr_lit h hL a b d1 d2 t A ks.length cp p hp hlen (by have : t.data.toList.length = t.size := size_list t; omega)
  · rw [if_neg (by decide), if_neg (by decide), if_neg (by decide), if_pos rfl] at hev
    rw [if_neg (by decide), if_pos rfl]
    obtain ⟨_, A, cp, rfl, _⟩ := hE.shape
    obtain ⟨r, hr, _⟩ := fnd_at (hname rfl)
    rw [hr] at hev ⊢
    simp only at hev ⊢
    obtain ⟨j, hj⟩ := Int.eq_ofNat_of_zero_le (hname rfl)
    rw [hj] at hr
    have hr' : c.g[j]? = some r := hr
    refine mr_ref h hL a b d1 d2 t A ks.length cp p _ o j hj (getElem?_lt hr') (fun r' cs' W hr2 hE' hW => ?_)
    rw [hr'] at hr2
    injection hr2 with hr2
    subst hr2
    exact hR n (Nat.le_refl _) r.2 p o cs' W l hev hE' ⟨F.right.rt r (List.mem_of_getElem? hr'), F.wf r (List.mem_of_getElem? hr')⟩ hp hW (by omega)
  · rw [if_neg (by decide), if_neg (by decide), if_neg (by decide), if_neg (by decide), if_pos rfl] at hev
    rw [if_neg (by decide), if_neg (by decide), if_pos rfl]
    exact mr_seq F hR h hL a b d1 d2 t ks p o cs hev hE hRk hp
  · rw [if_neg (by decide), if_neg (by decide), if_neg (by decide), if_neg (by decide), if_neg (by decide), if_pos rfl] at hev
    rw [if_neg (by decide), if_neg (by decide), if_neg (by decide), if_pos rfl]
    exact mr_alt hR h hL a b d1 d2 t ks p o cs hev hE hRk hp
  · rw [if_neg (by omega), if_neg (by omega), if_neg (by omega), if_neg (by omega), if_neg (by omega), if_neg (by omega)] at hev
    rw [if_neg (by omega), if_neg (by omega), if_neg (by omega), if_neg (by omega)]
    cases ks with
    | nil => simp at h1
    | cons e es =>
      have hes : es = [] := by
        cases es with
        | nil => rfl
        | cons x xs => simp at h1
      subst hes
      simp only at hev ⊢
      exact mr_one F hR hA h hL k a b d1 d2 t e p o cs h7 h11 hev hE (hRk e (by simp)) hp

/-- what mean.Run answers: with so many steps, where it takes C -/
def MRunR (g : List Rl) (s : ByteArray) (steps : Int) (C : Nat) (o v : Option Nat) (n x : Int) : Prop :=
  (lookG g s ≠ 0 ∧ v = none ∧ n = 0 ∧ x = lookG g s) ∨ (lookG g s = 0 ∧ (steps < 0 ∨ 1048576 < steps) ∧ v = none ∧ n = 0 ∧ x = 1) ∨
  (lookG g s = 0 ∧ 0 ≤ steps ∧ steps ≤ 1048576 ∧ steps < C ∧ v = none ∧ n = 0 ∧ x = 10) ∨
  (lookG g s = 0 ∧ (C : Int) ≤ steps ∧ steps ≤ 1048576 ∧ v = o ∧ n = C ∧ x = 0)
def MRunQ (g : List Rl) (s : ByteArray) (steps : Int) (C : Nat) (o : Option Nat) (w : World) (e : Ending) (w' : World) : Prop := ∃ v n x, MRunR g s steps C o v n x ∧ e = .returned (.tuple #[outV v, .int .i64 n, .int .i64 x]) ∧ Below w.heap.size w w'
/-- C and o are what the first rule takes, if the grammar is well -/
def Costs (g : List Rl) (s : ByteArray) (C : Nat) (o : Option Nat) : Prop := lookG g s = 0 → ∃ (n : Nat) (r : Rl), g[0]? = some r ∧ ev g s.data.toList n r.2 0 = some o ∧ C = cost g s.data.toList n (.ex r.2) 0
theorem costs (g : List Rl) (s : ByteArray) : ∃ C o, Costs g s C o := by
  by_cases h : lookG g s = 0
  · obtain ⟨W, h60⟩ := look_zero h
    have hpos := W.right.pos
    obtain ⟨r, hr⟩ : ∃ r, g[0]? = some r := ⟨_, List.getElem?_eq_getElem hpos⟩
    obtain ⟨n, o, he⟩ := ends (s := s.data.toList) W (p := 0) (by omega) (W.good (List.mem_of_getElem? hr))
    exact ⟨_, o, fun _ => ⟨n, r, hr, he, rfl⟩⟩
  · exact ⟨0, none, fun h' => absurd h' h⟩
end Go.Proofs.YtkmcnekjimobhaaDoor
namespace Go.Proofs.YtkmcnekjimobhaaDoor
open Go.RowKit Go.Maps

theorem outV_eq (v : Option Nat) : outV v = .agg #[.bool v.isSome, .int .i64 (v.getD 0 : Nat)] := by cases v <;> rfl
section
variable {g : List Rl} (a s : List UInt8)
end
end Go.Proofs.YtkmcnekjimobhaaDoor
namespace Go.Proofs.YtkmcnekjimobhaaDoor
open Go.RowKit Go.Maps

theorem run_nout0 (w : World) : (Instr.build 33 #[]).run Tryd.prog w = .ok (.agg #[.bool false, .int .i64 0]) w := by kernel_rfl

set_option maxRecDepth 100000 in
set_option maxHeartbeats 8000000 in
theorem mrun_any {g : List Rl} {A : Option Addr} {cp : Nat} {row : Nat → List Value} {w : World} (h : GrIs w w.heap.size g A cp row) (hwf : ∀ r ∈ g, WfE r.2) (s : ByteArray) (steps : Int) {C : Nat} {o : Option Nat} (hC : Costs g s C o) :
    Calls Tryd.prog 7 #[.agg #[.slice A g.length cp], .string s, .int .i64 steps] w (MRunQ g s steps C o w) := by
  have hrn := run_nout0
  have hlk := fun W (hW : Below w.heap.size w W) => mlook_any ((h.on hW).more hW.size) s
  have HLK := Lib.hid hlk
  by_cases hl0 : lookG g s = 0
  · rw [hl0] at HLK
    by_cases hbad : steps < 0 ∨ 1048576 < steps
    · have HR : Hid (MRunR g s steps C o none 0 1) := .inr (.inl ⟨hl0, hbad, rfl, rfl, rfl⟩)
      have h4 : steps < 0 ∨ (¬ steps < 0 ∧ 1048576 < steps) := by omega
      clear hbad h hlk hl0 hC
      rcases h4 with h1 | ⟨h1, h2⟩
      all_goals
        go_enter Tryd.func7, Tryd.ntmps7
        go_wp2_with fail
        refine (HLK.out _ (by repeat (first | exact Below.refl _ _ | assumption | refine Below.drew ?_ | refine below_drewN ?_ _ | refine Below.alloc ?_ (by first | omega | (simp; omega) | simp) _ | refine Below.setCell ?_ (by first | omega | (simp; omega) | simp) _))).mono ?_
        rintro e w1 ⟨rfl, hb1⟩
        have hw1 : Below w.heap.size w w1 := (((Below.refl _ w).alloc (Nat.le_refl _) _).alloc (by simp) _).trans (hb1.mono (by simp; omega))
        have hox : Blk w1 (w.heap.size + 1) 33 #[.bool false, .int .i64 0] := (blk_at (by simp)).below hb1 (by simp)
        have yz0 : w1.cell? ⟨w.heap.size + 1, 0, none⟩ = some (.bool false) := hox.cell 0; have yz1 : w1.cell? ⟨w.heap.size + 1, 1, none⟩ = some (.int .i64 0) := hox.cell 1; have yf0 := hox.frozen 0; have yf1 := hox.frozen 1; have ye0 : (w1.setCell ⟨w.heap.size + 1, 0, none⟩ (.bool false)).cell? ⟨w.heap.size + 1, 0, none⟩ = some (.bool false) := (hox.set_ 0 _).cell 0; have ye1 : ((w1.setCell ⟨w.heap.size + 1, 0, none⟩ (.bool false)).setCell ⟨w.heap.size + 1, 1, none⟩ (.int .i64 0)).cell? ⟨w.heap.size + 1, 1, none⟩ = some (.int .i64 0) := ((hox.set_ 0 _).set_ 1 _).cell 1
        have hzw := hw1.size
        clear hb1
        go_wp2
        exact bodyPost_ret (v := .tuple #[.agg #[.bool false, .int .i64 0], .int .i64 0, .int .i64 1]) (by simp [results, Tryd.results7, go_sem, ye0, ye1]) rfl ⟨none, 0, 1, HR.out, rfl, (by repeat (first | exact Below.refl _ _ | assumption | refine Below.drew ?_ | refine below_drewN ?_ _ | refine Below.alloc ?_ (by first | omega | (simp; omega) | simp) _ | refine Below.setCell ?_ (by first | omega | (simp; omega) | simp) _))⟩
    · obtain ⟨L, hL⟩ := Int.eq_ofNat_of_zero_le (show 0 ≤ steps by omega)
      subst hL
      have hLm : L ≤ 1048576 := by omega
      have h1 : ¬ ((L : Int) < 0) := by omega
      have h2 : ¬ ((1048576 : Int) < (L : Int)) := by omega
      clear hbad
      obtain ⟨W0, h60⟩ := look_zero hl0
      obtain ⟨n, r, hr, hev, hcost⟩ := hC hl0
      have hpos := W0.right.pos
      have hm := h.cap
      unfold maxLen at hm
      obtain ⟨ad, nm, k', a', b', c', d', t', ks', A', cp', rfl, hab, hej, hnm, hE, hS⟩ := h.rule hpos
      rw [hr] at hej
      injection hej with hej
      have hlen : s.data.toList.length = s.size := size_list s
      have hrun : ∀ (R : Nat) (W : World) (hBR : w.heap.size ≤ R), Below w.heap.size w W → Rn ⟨w.heap.size, R, some ad, cp, s, g, row, hBR⟩ W L false → Calls Tryd.prog 18 #[.pointer (some ⟨R, 0, none⟩), .agg #[.int .i64 k', .int .u64 a', .int .u64 b', .int .u64 c', .int .u64 d', .string t', .slice A' ks'.length cp'], .int .i64 0] W (Gone ⟨w.heap.size, R, some ad, cp, s, g, row, hBR⟩ L C o W) := by
        intro R W hBR hW hR
        have F : RC.Fit ⟨w.heap.size, R, some ad, cp, s, g, row, hBR⟩ := ⟨W0.right, hwf, by show s.data.toList.length ≤ 1000; omega⟩
        have := runs F n r.2 0 o (exCells k' a' b' c' d' t' A' ks'.length cp') W L hev (by rw [hej]; exact hE.on hW) ⟨W0.right.rt r (List.mem_of_getElem? hr), hwf r (List.mem_of_getElem? hr)⟩ (by omega) hR (by unfold lots; omega)
        rw [hcost]
        exact this
      have hgr := fun W (hW : Below w.heap.size w W) => h.on hW
      rw [Nat.zero_mul] at hS
      have hS1 : Eight w ad nm k' a' b' c' d' t' A' ks'.length cp' := hS
      have hcc : ∀ W, Below w.heap.size w W → Eight W ad nm k' a' b' c' d' t' A' ks'.length cp' := fun W hW =>
        have hk := fun (q : Addr) (hq : q.block = ad.block) => hW.cell (p := q) (by rw [hq]; omega)
        ⟨(hk _ rfl).trans hS1.c0, (hk ⟨_, _, none⟩ rfl).trans hS1.c1, (hk ⟨_, _, none⟩ rfl).trans hS1.c2, (hk ⟨_, _, none⟩ rfl).trans hS1.c3, (hk ⟨_, _, none⟩ rfl).trans hS1.c4, (hk ⟨_, _, none⟩ rfl).trans hS1.c5, (hk ⟨_, _, none⟩ rfl).trans hS1.c6, (hk ⟨_, _, none⟩ rfl).trans hS1.c7⟩
      have HRUN := Lib.hid hrun
      have HGR := Lib.hid hgr
      have HCC := Lib.hid hcc
      have HL0 := Lib.hid hl0
      have hp1 : (0 : Int) < (g.length : Int) := by omega
      clear hrun hgr hcc hS hS1 hE hnm hej hev hcost hr hC h hlk hwf W0 hl0
      go_enter Tryd.func7, Tryd.ntmps7
      go_wp2_with fail
      refine (HLK.out _ (by repeat (first | exact Below.refl _ _ | assumption | refine Below.drew ?_ | refine below_drewN ?_ _ | refine Below.alloc ?_ (by first | omega | (simp; omega) | simp) _ | refine Below.setCell ?_ (by first | omega | (simp; omega) | simp) _))).mono ?_
      rintro e w1 ⟨rfl, hb1⟩
      have hw1 : Below w.heap.size w w1 := (((Below.refl _ w).alloc (Nat.le_refl _) _).alloc (by simp) _).trans (hb1.mono (by simp; omega))
      have hgx : Blk w1 w.heap.size 24 #[.slice (some ad) g.length cp] := ((blk_at rfl).alloc _).below hb1 (by simp; omega)
      have hox : Blk w1 (w.heap.size + 1) 33 #[.bool false, .int .i64 0] := (blk_at (by simp)).below hb1 (by simp)
      have g0 : w1.cell? ⟨w.heap.size, 0, none⟩ = some (.slice (some ad) g.length cp) := hgx.cell 0
      obtain ⟨y0, y1, y2, y3, y4, y5, y6, y7⟩ := HCC.out w1 hw1
      have y2' : w1.cell? ⟨ad.block, ad.off + 1 + 1, none⟩ = some (.int .u64 a') := y2
      have y3' : w1.cell? ⟨ad.block, ad.off + 1 + 2, none⟩ = some (.int .u64 b') := y3
      have y4' : w1.cell? ⟨ad.block, ad.off + 1 + 3, none⟩ = some (.int .u64 c') := y4
      have y5' : w1.cell? ⟨ad.block, ad.off + 1 + 4, none⟩ = some (.int .u64 d') := y5
      have y6' : w1.cell? ⟨ad.block, ad.off + 1 + 5, none⟩ = some (.string t') := y6
      have y7' : w1.cell? ⟨ad.block, ad.off + 1 + 6, none⟩ = some (.slice A' ks'.length cp') := y7
      have hzw := hw1.size
      have hxl := hox.lt
      have hgl := hgx.lt
      have had1 : ad.block < w1.heap.size := by omega
      have had2 : ad.block ≠ w1.heap.size := by omega
      clear hb1
      go_wp2_with fail
      refine (HRUN.out w1.heap.size _ (by omega) (by repeat (first | exact Below.refl _ _ | assumption | refine Below.drew ?_ | refine below_drewN ?_ _ | refine Below.alloc ?_ (by first | omega | (simp; omega) | simp) _ | refine Below.setCell ?_ (by first | omega | (simp; omega) | simp) _)) ⟨blk_at rfl, HGR.out _ (by repeat (first | exact Below.refl _ _ | assumption | refine Below.drew ?_ | refine below_drewN ?_ _ | refine Below.alloc ?_ (by first | omega | (simp; omega) | simp) _ | refine Below.setCell ?_ (by first | omega | (simp; omega) | simp) _))⟩).mono ?_
      rintro e w2 ⟨⟨z, rfl, hz⟩, q1, q2⟩
      have hox2 : Blk w2 (w.heap.size + 1) 33 #[.bool false, .int .i64 0] := q2.box (hox.alloc _) (by show w.heap.size + 1 ≠ w1.heap.size; omega)
      have s2 := q1.c2
      have s3 := q1.c3
      have hw2 : Below w.heap.size w w2 := (hw1.alloc hzw _).trans (q2.below (by simp; omega) (by show w.heap.size ≤ w1.heap.size; omega))
      have hzw2 := hw2.size
      have hxl2 := hox2.lt
      have hRl := q1.blk.lt
      clear y0 y1 y2 y3 y4 y5 y6 y7 y2' y3' y4' y5' y6' y7' g0
      by_cases hlc : L < C
      · rw [if_pos hlc] at hz ⊢
        rw [decide_eq_true hlc] at s3
        have HR : Hid (MRunR g s (L : Int) C o none 0 10) := .inr (.inr (.inl ⟨HL0.out, by omega, by omega, by omega, rfl, rfl, rfl⟩))
        have yz0 : w2.cell? ⟨w.heap.size + 1, 0, none⟩ = some (.bool false) := hox2.cell 0; have yz1 : w2.cell? ⟨w.heap.size + 1, 1, none⟩ = some (.int .i64 0) := hox2.cell 1; have yf0 := hox2.frozen 0; have yf1 := hox2.frozen 1; have ye0 : (w2.setCell ⟨w.heap.size + 1, 0, none⟩ (.bool false)).cell? ⟨w.heap.size + 1, 0, none⟩ = some (.bool false) := (hox2.set_ 0 _).cell 0; have ye1 : ((w2.setCell ⟨w.heap.size + 1, 0, none⟩ (.bool false)).setCell ⟨w.heap.size + 1, 1, none⟩ (.int .i64 0)).cell? ⟨w.heap.size + 1, 1, none⟩ = some (.int .i64 0) := ((hox2.set_ 0 _).set_ 1 _).cell 1
        go_wp2
        exact bodyPost_ret (v := .tuple #[.agg #[.bool false, .int .i64 0], .int .i64 0, .int .i64 10]) (by simp [results, Tryd.results7, go_sem, ye0, ye1]) rfl ⟨none, 0, 10, HR.out, rfl, (by repeat (first | exact Below.refl _ _ | assumption | refine Below.drew ?_ | refine below_drewN ?_ _ | refine Below.alloc ?_ (by first | omega | (simp; omega) | simp) _ | refine Below.setCell ?_ (by first | omega | (simp; omega) | simp) _))⟩
      · rw [if_neg hlc] at hz ⊢
        rw [decide_eq_false hlc] at s3
        have HR : Hid (MRunR g s (L : Int) C o o C 0) := .inr (.inr (.inr ⟨HL0.out, by omega, by omega, rfl, rfl, rfl⟩))
        have hsub : IntKind.i64.wrap ((L : Int) - ((L - C : Nat) : Int)) = (C : Int) := by rw [show (L : Int) - ((L - C : Nat) : Int) = (C : Int) by omega]; exact wrap_i64 _ (by omega) (by omega)
        generalize ((L - C : Nat) : Int) = LC at s2 hsub
        obtain ⟨b, n0, hb, hbn⟩ : ∃ (b : Bool) (n0 : Int), o.isSome = b ∧ outV o = .agg #[.bool b, .int .i64 n0] := by cases o <;> exact ⟨_, _, rfl, rfl⟩
        have hzn : (if b = false then 0 else z) = n0 := by
          cases o with
          | none => simp [outV] at hb hbn; subst hb; simp [hbn]
          | some q => simp [outV] at hb hbn; subst hb; simp [hz q rfl, hbn.symm]
        rw [hb]
        have HBN := Lib.hid hbn
        have HZN := Lib.hid hzn
        have hbb : (o.isSome = true) = (b = true) := by rw [hb]
        clear hb hbn hzn hz hbb HRUN HLK
        cases b with
        | false =>
          obtain rfl : 0 = n0 := HZN.out
          have yz0 : w2.cell? ⟨w.heap.size + 1, 0, none⟩ = some (.bool false) := hox2.cell 0; have yz1 : w2.cell? ⟨w.heap.size + 1, 1, none⟩ = some (.int .i64 0) := hox2.cell 1; have yf0 := hox2.frozen 0; have yf1 := hox2.frozen 1; have ye0 : (w2.setCell ⟨w.heap.size + 1, 0, none⟩ (.bool false)).cell? ⟨w.heap.size + 1, 0, none⟩ = some (.bool false) := (hox2.set_ 0 _).cell 0; have ye1 : ((w2.setCell ⟨w.heap.size + 1, 0, none⟩ (.bool false)).setCell ⟨w.heap.size + 1, 1, none⟩ (.int .i64 0)).cell? ⟨w.heap.size + 1, 1, none⟩ = some (.int .i64 0) := ((hox2.set_ 0 _).set_ 1 _).cell 1
          go_wp2_with fail
          go_region
          all_goals
            go_wp2
            exact bodyPost_ret (v := .tuple #[.agg #[.bool false, .int .i64 0], .int .i64 C, .int .i64 0]) (by simp [results, Tryd.results7, go_sem, ye0, ye1]) rfl ⟨o, C, 0, HR.out, by rw [HBN.out], (by repeat (first | exact Below.refl _ _ | assumption | refine Below.drew ?_ | refine below_drewN ?_ _ | refine Below.alloc ?_ (by first | omega | (simp; omega) | simp) _ | refine Below.setCell ?_ (by first | omega | (simp; omega) | simp) _))⟩
        | true =>
          obtain rfl : z = n0 := HZN.out
          have yz0 : w2.cell? ⟨w.heap.size + 1, 0, none⟩ = some (.bool false) := hox2.cell 0; have yz1 : w2.cell? ⟨w.heap.size + 1, 1, none⟩ = some (.int .i64 0) := hox2.cell 1; have yf0 := hox2.frozen 0; have yf1 := hox2.frozen 1; have ye0 : (w2.setCell ⟨w.heap.size + 1, 0, none⟩ (.bool true)).cell? ⟨w.heap.size + 1, 0, none⟩ = some (.bool true) := (hox2.set_ 0 _).cell 0; have ye1 : ((w2.setCell ⟨w.heap.size + 1, 0, none⟩ (.bool true)).setCell ⟨w.heap.size + 1, 1, none⟩ (.int .i64 z)).cell? ⟨w.heap.size + 1, 1, none⟩ = some (.int .i64 z) := ((hox2.set_ 0 _).set_ 1 _).cell 1
          go_wp2_with fail
          go_region
          all_goals
            go_wp2
            exact bodyPost_ret (v := .tuple #[.agg #[.bool true, .int .i64 z], .int .i64 C, .int .i64 0]) (by simp [results, Tryd.results7, go_sem, ye0, ye1]) rfl ⟨o, C, 0, HR.out, by rw [HBN.out], (by repeat (first | exact Below.refl _ _ | assumption | refine Below.drew ?_ | refine below_drewN ?_ _ | refine Below.alloc ?_ (by first | omega | (simp; omega) | simp) _ | refine Below.setCell ?_ (by first | omega | (simp; omega) | simp) _))⟩
  · have HR : Hid (MRunR g s steps C o none 0 (lookG g s)) := .inl ⟨hl0, rfl, rfl, rfl⟩
    have hxb : (lookG g s != 0) = true := by rw [bne_iff_ne]; exact hl0
    clear hl0 h hlk hC
    generalize lookG g s = x at hxb HLK HR
    go_enter Tryd.func7, Tryd.ntmps7
    go_wp2_with fail
    refine (HLK.out _ (by repeat (first | exact Below.refl _ _ | assumption | refine Below.drew ?_ | refine below_drewN ?_ _ | refine Below.alloc ?_ (by first | omega | (simp; omega) | simp) _ | refine Below.setCell ?_ (by first | omega | (simp; omega) | simp) _))).mono ?_
    rintro e w1 ⟨rfl, hb1⟩
    have hw1 : Below w.heap.size w w1 := (((Below.refl _ w).alloc (Nat.le_refl _) _).alloc (by simp) _).trans (hb1.mono (by simp; omega))
    have hox : Blk w1 (w.heap.size + 1) 33 #[.bool false, .int .i64 0] := (blk_at (by simp)).below hb1 (by simp)
    have yz0 : w1.cell? ⟨w.heap.size + 1, 0, none⟩ = some (.bool false) := hox.cell 0; have yz1 : w1.cell? ⟨w.heap.size + 1, 1, none⟩ = some (.int .i64 0) := hox.cell 1; have yf0 := hox.frozen 0; have yf1 := hox.frozen 1; have ye0 : (w1.setCell ⟨w.heap.size + 1, 0, none⟩ (.bool false)).cell? ⟨w.heap.size + 1, 0, none⟩ = some (.bool false) := (hox.set_ 0 _).cell 0; have ye1 : ((w1.setCell ⟨w.heap.size + 1, 0, none⟩ (.bool false)).setCell ⟨w.heap.size + 1, 1, none⟩ (.int .i64 0)).cell? ⟨w.heap.size + 1, 1, none⟩ = some (.int .i64 0) := ((hox.set_ 0 _).set_ 1 _).cell 1
    have hzw := hw1.size
    clear hb1
    go_wp2
    exact bodyPost_ret (v := .tuple #[.agg #[.bool false, .int .i64 0], .int .i64 0, .int .i64 x]) (by simp [results, Tryd.results7, go_sem, ye0, ye1]) rfl ⟨none, 0, x, HR.out, rfl, (by repeat (first | exact Below.refl _ _ | assumption | refine Below.drew ?_ | refine below_drewN ?_ _ | refine Below.alloc ?_ (by first | omega | (simp; omega) | simp) _ | refine Below.setCell ?_ (by first | omega | (simp; omega) | simp) _))⟩
end Go.Proofs.YtkmcnekjimobhaaDoor
namespace Go.Proofs.YtkmcnekjimobhaaDoor
open Go.Shelf
def sh_lays138_ren : Go.Shelf.Ren := ⟨fun | 138 => 9 | 195 => 19 | 218 => 20 | 143 => 21 | 219 => 33 | 217 => 47 | 225 => 48 | 224 => 49 | 267 => 50 | 266 => 68 | 314 => 69 | n => n, fun | 9 => 9 | 3 => 3 | 4 => 4 | 5 => 5 | 0 => 0 | 46 => 108 | 146 => 131 | 51 => 130 | n => n, fun | 1 => 0 | n => n⟩
theorem sh_lays138 : Go.Proofs.Lays.n138 Tryd.prog sh_lays138_ren := {
  mixed := by kernel_rfl
  f138 := Tryd.func9.trans (congrArg some (by kernel_rfl))
  f143 := Tryd.func21.trans (congrArg some (by kernel_rfl))
  f195 := Tryd.func19.trans (congrArg some (by kernel_rfl))
  f217 := Tryd.func47.trans (congrArg some (by kernel_rfl))
  f218 := Tryd.func20.trans (congrArg some (by kernel_rfl))
  f219 := Tryd.func33.trans (congrArg some (by kernel_rfl))
  f224 := Tryd.func49.trans (congrArg some (by kernel_rfl))
  f225 := Tryd.func48.trans (congrArg some (by kernel_rfl))
  f266 := Tryd.func68.trans (congrArg some (by kernel_rfl))
  f267 := Tryd.func50.trans (congrArg some (by kernel_rfl))
  f314 := Tryd.func69.trans (congrArg some (by kernel_rfl))
  t0 := Tryd.underlying0
  a0 := Tryd.isAgg0
  z0 := Tryd.sizeOf0
  v0 := Tryd.zeroValue0
  t3 := Tryd.underlying3
  a3 := Tryd.isAgg3
  z3 := Tryd.sizeOf3
  v3 := Tryd.zeroValue3
  t4 := Tryd.underlying4
  a4 := Tryd.isAgg4
  z4 := Tryd.sizeOf4
  v4 := Tryd.zeroValue4
  t5 := Tryd.underlying5
  a5 := Tryd.isAgg5
  z5 := Tryd.sizeOf5
  v5 := Tryd.zeroValue5
  t9 := Tryd.underlying9
  a9 := Tryd.isAgg9
  z9 := Tryd.sizeOf9
  v9 := Tryd.zeroValue9
  t46 := Tryd.underlying108
  a46 := Tryd.isAgg108
  z46 := Tryd.sizeOf108
  v46 := Tryd.zeroValue108
  t51 := Tryd.underlying130
  a51 := Tryd.isAgg130
  z51 := Tryd.sizeOf130
  v51 := Tryd.zeroValue130
  t146 := Tryd.underlying131
  a146 := Tryd.isAgg131
  z146 := Tryd.sizeOf131
  v146 := Tryd.zeroValue131
  g1 := by kernel_rfl }
open Go.RowKit Go.Lib in
theorem sh_strings_Count_one (s : ByteArray) (c : UInt8) (w : World) :
    Calls Tryd.prog 9 #[.string s, .string ⟨#[c]⟩] w fun e w' => e = .returned (.int .i64 (Lib.countByte s.data.toList c)) ∧ w' = w := Any.strings_Count_one sh_lays138 s c w
end Go.Proofs.YtkmcnekjimobhaaDoor
namespace Go.Proofs.YtkmcnekjimobhaaDoor
open Go.RowKit

theorem itoa_0 : Lib.itoa 0 = [48] := by unfold Lib.itoa; rw [if_neg (by decide), dd_small (by decide)]; rfl
theorem itoa_1 : Lib.itoa 1 = [49] := by unfold Lib.itoa; rw [if_neg (by decide), dd_small (by decide)]; rfl
theorem itoa_2 : Lib.itoa 2 = [50] := by unfold Lib.itoa; rw [if_neg (by decide), dd_small (by decide)]; rfl
def trZ : Tr := .mk 0 0 0 []
def trX : Tr := .mk 1 0 2 [trZ, trZ]
theorem trX_text : (⟨(txI trX).toArray⟩ : ByteArray) = ⟨#[49, 58, 48, 45, 50, 40, 48, 58, 48, 45, 48, 32, 48, 58, 48, 45, 48, 41]⟩ := by
  have : txI trX = [49, 58, 48, 45, 50, 40, 48, 58, 48, 45, 48, 32, 48, 58, 48, 45, 48, 41] := by
    simp [trX, trZ, txI, txL, itoa_0, itoa_1, itoa_2]
  rw [this]
theorem trX_is (W : World) (b : Nat) {T : TypeId} (h : Blk W b T #[.int .i64 0, .int .i64 0, .int .i64 0, .slice none 0 0, .int .i64 0, .int .i64 0, .int .i64 0, .slice none 0 0]) :
    TrIs W (fun k => k = b) trX [.int .i64 1, .int .i64 0, .int .i64 2, .slice (some ⟨b, 0, none⟩) 2 2] := by
  have hz : TrIs W (fun k => k = b) trZ [.int .i64 0, .int .i64 0, .int .i64 0, .slice none 0 0] :=
    .mk 0 0 0 [] none 0 (fun _ => []) (by simp) (by unfold maxLen; omega) (fun h => by simp at h) (fun i t h => by simp at h) (fun i t ad h => by simp at h)
  refine .mk 1 0 2 [trZ, trZ] (some ⟨b, 0, none⟩) 2 (fun _ => [.int .i64 0, .int .i64 0, .int .i64 0, .slice none 0 0]) (by simp) (by unfold maxLen; omega) (fun _ => ⟨_, rfl, rfl⟩) (fun i t ht => ?_) (fun i t ad ht hA j u hu => ?_)
  · match i, ht with
    | 0, ht => simp at ht; rw [← ht]; exact hz
    | 1, ht => simp at ht; rw [← ht]; exact hz
  · injection hA with hA
    subst hA
    rw [add_at, cell_add, h.cell]
    match i, j, ht, hu with
    | 0, 0, _, hu => simpa using hu
    | 0, 1, _, hu => simpa using hu
    | 0, 2, _, hu => simpa using hu
    | 0, 3, _, hu => simpa using hu
    | 1, 0, _, hu => simpa using hu
    | 1, 1, _, hu => simpa using hu
    | 1, 2, _, hu => simpa using hu
    | 1, 3, _, hu => simpa using hu
theorem colons_any (t : Tr) (w : World) : Calls Tryd.prog 9 #[.string ⟨(txI t).toArray⟩, .string ⟨#[58]⟩] w fun e w' => e = .returned (.int .i64 (trNodes t)) ∧ w' = w := by
  have h := sh_strings_Count_one ⟨(txI t).toArray⟩ 58 w
  have e : Lib.countByte (⟨(txI t).toArray⟩ : ByteArray).data.toList 58 = trNodes t := tx_count t
  rw [e] at h
  exact h

set_option maxRecDepth 100000 in
set_option maxHeartbeats 8000000 in
theorem walk_TreeCounts {g : List Rl} {A : Option Addr} {cp : Nat} {row : Nat → List Value} (s : ByteArray) (w : World) (h : GrIs w w.heap.size g A cp row) (hwf : ∀ r ∈ g, WfE r.2) (hT : TabP w) :
    Calls Tryd.prog 3 #[.agg #[.slice A g.length cp], .string s] w fun e w' => e = .returned (.bool true) ∧ Below w.heap.size w w' := by
  have hto := fun W (hW : Below w.heap.size w W) => tof_any (h.grow hW) hwf s
  have hmr := fun (C : Nat) (o : Option Nat) (hC : Costs g s C o) W (hW : Below w.heap.size w W) => mrun_any (h.grow hW) hwf s 1048576 hC
  have hx := fun (W : World) (b : Nat) (hW : Below w.heap.size w W) (hB : Blk W b 28 #[.int .i64 0, .int .i64 0, .int .i64 0, .slice none 0 0, .int .i64 0, .int .i64 0, .int .i64 0, .slice none 0 0]) => ttext_any trX _ W _ (trX_is W b hB) (fun q e => by rw [e]; exact hB.lt) (hT.below hT.lt hW) (by simp [trX, trZ, t64, t64L, I64]) (by simp [trX, trZ, trNodes, trAll])
  rw [trX_text] at hx
  have HTO := Lib.hid hto
  have HMR := Lib.hid hmr
  have HX := Lib.hid hx
  have HT := Lib.hid hT
  have HW := Lib.hid hwf
  clear hto hmr hx hT h hwf
  go_enter Tryd.func3, Tryd.ntmps3
  have hb0 : Blk ((w.alloc (.cells #[.slice A g.length cp] 24)).alloc (.cells #[.int .i64 0, .int .i64 0, .int .i64 0, .slice none 0 0, .int .i64 0, .int .i64 0, .int .i64 0, .slice none 0 0] 28)) (w.heap.size + 1) 28 #[.int .i64 0, .int .i64 0, .int .i64 0, .slice none 0 0, .int .i64 0, .int .i64 0, .int .i64 0, .slice none 0 0] := blk_at (by simp)
  go_wp2_with fail
  refine (HX.out _ _ (by repeat (first | exact Below.refl _ _ | assumption | refine Below.drew ?_ | refine below_drewN ?_ _ | refine Below.alloc ?_ (by first | omega | (simp; omega) | simp) _ | refine Below.setCell ?_ (by first | omega | (simp; omega) | simp) _)) hb0).mono ?_
  rintro e w1 ⟨rfl, hb1⟩
  have hgx : Blk w1 w.heap.size 24 #[.slice A g.length cp] := ((blk_at rfl).alloc _).below hb1 (by simp; omega)
  have hw1 : Below w.heap.size w w1 := Below.trans (by repeat (first | exact Below.refl _ _ | assumption | refine Below.drew ?_ | refine below_drewN ?_ _ | refine Below.alloc ?_ (by first | omega | (simp; omega) | simp) _ | refine Below.setCell ?_ (by first | omega | (simp; omega) | simp) _)) (hb1.mono (by first | omega | (simp; omega) | simp))
  have hz1 := hw1.size
  have hgl1 := hgx.lt
  have g1 : w1.cell? ⟨w.heap.size, 0, none⟩ = some (.slice A g.length cp) := hgx.cell 0
  clear hb1 hb0
  go_wp2_with fail
  refine (HTO.out _ hw1).mono ?_
  rintro e w2 ⟨hb2, hq⟩
  have hgx2 := hgx.below hb2 hgx.lt
  have hw2 := hw1.trans (hb2.mono hw1.size)
  have hz2 := hw2.size
  have hgl2 := hgx2.lt
  have g2 : w2.cell? ⟨w.heap.size, 0, none⟩ = some (.slice A g.length cp) := hgx2.cell 0
  have HLT := Lib.hid hz1
  clear hb2 hgx hw1 g1 hgl1
  rcases hq with ⟨hne, rfl⟩ | ⟨hl0, _, rfl⟩ | ⟨hl0, r, n, q, V, tc, S, hr, hev, rfl, hTr, hS⟩
  · have hx0 : (lookG g s != 0) = true := by rw [bne_iff_ne]; exact hne
    generalize lookG g s = y at hx0
    clear hne HT HX
    obtain ⟨C, o, hC⟩ := costs g s
    unfold zeroTr
    go_wp2_with fail
    refine (HMR.out C o hC _ (by repeat (first | exact Below.refl _ _ | assumption | refine Below.drew ?_ | refine below_drewN ?_ _ | refine Below.alloc ?_ (by first | omega | (simp; omega) | simp) _ | refine Below.setCell ?_ (by first | omega | (simp; omega) | simp) _))).mono ?_
    rintro e w3 ⟨v, nn, x, hv, rfl, hb3⟩
    have hw3 : Below w.heap.size w w3 := Below.trans (by repeat (first | exact Below.refl _ _ | assumption | refine Below.drew ?_ | refine below_drewN ?_ _ | refine Below.alloc ?_ (by first | omega | (simp; omega) | simp) _ | refine Below.setCell ?_ (by first | omega | (simp; omega) | simp) _)) (hb3.mono (by first | omega | (simp; omega) | simp))
    have hz3 := hw3.size
    rw [outV_eq]
    clear hb3 hgx2 hw2 hv hC HMR
    go_wp2
    go_ret
    exact ⟨rfl, (by repeat (first | exact Below.refl _ _ | assumption | refine Below.drew ?_ | refine below_drewN ?_ _ | refine Below.alloc ?_ (by first | omega | (simp; omega) | simp) _ | refine Below.setCell ?_ (by first | omega | (simp; omega) | simp) _))⟩
  · clear HT HX hl0
    obtain ⟨C, o, hC⟩ := costs g s
    unfold zeroTr
    go_wp2_with fail
    refine (HMR.out C o hC _ (by repeat (first | exact Below.refl _ _ | assumption | refine Below.drew ?_ | refine below_drewN ?_ _ | refine Below.alloc ?_ (by first | omega | (simp; omega) | simp) _ | refine Below.setCell ?_ (by first | omega | (simp; omega) | simp) _))).mono ?_
    rintro e w3 ⟨v, nn, x, hv, rfl, hb3⟩
    have hw3 : Below w.heap.size w w3 := Below.trans (by repeat (first | exact Below.refl _ _ | assumption | refine Below.drew ?_ | refine below_drewN ?_ _ | refine Below.alloc ?_ (by first | omega | (simp; omega) | simp) _ | refine Below.setCell ?_ (by first | omega | (simp; omega) | simp) _)) (hb3.mono (by first | omega | (simp; omega) | simp))
    have hz3 := hw3.size
    rw [outV_eq]
    clear hb3 hgx2 hw2 hv hC HMR
    go_wp2
    go_ret
    exact ⟨rfl, (by repeat (first | exact Below.refl _ _ | assumption | refine Below.drew ?_ | refine below_drewN ?_ _ | refine Below.alloc ?_ (by first | omega | (simp; omega) | simp) _ | refine Below.setCell ?_ (by first | omega | (simp; omega) | simp) _))⟩
  · have hC : Costs g s (cost g s.data.toList n (.ex r.2) 0) (some q) := fun _ => ⟨n, r, hr, hev, rfl⟩
    have hcst := (tr_cost g s.data.toList n (.ex r.2) 0).2 r.2 rfl (by rw [hev]; simp)
    have W0 := (look_zero hl0).1
    have h60 : q ≤ 60 := by
      have h1 := (told (fits_of W0.right) n).1 r.2 0 (some q) (W0.right.rt r (List.mem_of_getElem? hr)) (by omega) hev
      have h3 := (look_zero hl0).2
      have h4 : s.data.toList.length = s.size := size_list s
      have h2 := h1.2.1
      omega
    have h64 : t64 (.mk 0 0 q (trJ g s.data.toList n (.ex r.2) 0)) := nest64 W0.right.ten _ (.mk 0 0 q r n _ hr hev (nests n (.ex r.2) 0 q hev)) ⟨q, rfl, h60⟩
    have hmr := HMR.out _ _ hC
    have hnn : trNodes (.mk 0 0 q (trJ g s.data.toList n (.ex r.2) 0)) = 1 + trAll (trJ g s.data.toList n (.ex r.2) 0) := by rw [trNodes]
    generalize cost g s.data.toList n (.ex r.2) 0 = C at hC hcst hmr
    generalize hTT : trJ g s.data.toList n (.ex r.2) 0 = ts at *
    clear HMR
    have HMR := Lib.hid hmr
    clear hmr hC hev hTT W0 hr
    go_wp2_with fail
    refine (HMR.out _ (by repeat (first | exact Below.refl _ _ | assumption | refine Below.drew ?_ | refine below_drewN ?_ _ | refine Below.alloc ?_ (by first | omega | (simp; omega) | simp) _ | refine Below.setCell ?_ (by first | omega | (simp; omega) | simp) _))).mono ?_
    rintro e w3 ⟨v, nn, x, hv, rfl, hb3⟩
    have hbx : Below w2.heap.size w2 w3 := Below.trans ((Below.refl _ w2).alloc (Nat.le_refl _) (.cells #[.int .i64 0, .int .i64 0, .int .i64 q, .slice V ts.length tc] 28)) (hb3.mono (by first | omega | (simp; omega) | simp))
    have htb : Blk w3 w2.heap.size 28 #[.int .i64 0, .int .i64 0, .int .i64 q, .slice V ts.length tc] := (blk_at rfl).below hb3 (by simp)
    have hw3 : Below w.heap.size w w3 := hw2.trans (hbx.mono hz2)
    have hz3 := hw3.size
    have hlt2 := htb.lt
    rw [outV_eq]
    have hbad : x ≠ 0 ∨ ((C : Int) ≤ 1048576 ∧ nn = C ∧ x = 0) := by
      rcases hv with ⟨h, _⟩ | ⟨_, h, _⟩ | ⟨_, _, _, _, h1, h2, h3⟩ | ⟨h0, h1, _, h3, h4, h5⟩
      · exact absurd hl0 h
      · omega
      · exact .inl (by omega)
      · exact .inr ⟨h1, h4, h5⟩
    clear hv hb3
    rcases hbad with hx | ⟨hCm, rfl, rfl⟩
    · have hxb : (x != 0) = true := by rw [bne_iff_ne]; exact hx
      clear hx HT HX hbx htb hTr h64 hnn hcst
      go_wp2
      go_ret
      exact ⟨rfl, (by repeat (first | exact Below.refl _ _ | assumption | refine Below.drew ?_ | refine below_drewN ?_ _ | refine Below.alloc ?_ (by first | omega | (simp; omega) | simp) _ | refine Below.setCell ?_ (by first | omega | (simp; omega) | simp) _))⟩
    · generalize hTT : Tr.mk 0 0 (q : Int) ts = T at hTr h64 hnn
      have hS2 : ∀ b, S b → b < w2.heap.size := fun b hb => (hS b hb).2
      have hct := fun W (hW : Below w2.heap.size w2 W) => tcount_any T _ W S (hTr.keep (fun _ h => h) fun p hp => hW.cell (hS2 _ hp)) (fun b hb => Nat.lt_of_lt_of_le (hS2 b hb) hW.size) (by omega)
      have htx := fun W (hW : Below w2.heap.size w2 W) => ttext_any T _ W S (hTr.keep (fun _ h => h) fun p hp => hW.cell (hS2 _ hp)) (fun b hb => Nat.lt_of_lt_of_le (hS2 b hb) hW.size) (HT.out.below HT.out.lt (hw2.trans (hW.mono hz2))) h64 (by omega)
      have hc1 : (1 : Int) ≤ (trNodes T : Int) := by omega
      have hc2 : (trNodes T : Int) ≤ (C : Int) := by omega
      have hcl := colons_any T
      have HCT := Lib.hid hct
      have HTXT := Lib.hid htx
      have HCL := Lib.hid hcl
      clear hct htx hcl hTr h64 hnn hcst HX hS hS2 hTT
      generalize trNodes T = N at HCT HCL hc1 hc2
      generalize (⟨(txI T).toArray⟩ : ByteArray) = X at HTXT HCL
      have HB := Lib.hid (And.intro htb (And.intro hbx hw3))
      clear hbx htb hw3 hgx2 hw2 HMR
      go_wp2_with fail
      refine wp_region_q (fun W => Blk W w2.heap.size 28 #[.int .i64 0, .int .i64 0, .int .i64 q, .slice V ts.length tc] ∧ Below w2.heap.size w2 W ∧ Below w.heap.size w W) (by kernel_rfl) (by kernel_rfl) ⟨(HB.out.1.alloc _).drew, (HB.out.2.1.alloc HB.out.2.1.size _).drew, (HB.out.2.2.alloc HB.out.2.2.size _).drew⟩ ?_
      repeat
        (first | ((with_reducible apply QW.free rfl); · (intro W hW; obtain ⟨q1, q2, q3⟩ := hW; have r0 := q1.cell 0; have r1 := q1.cell 1; have r2 := q1.cell 2; have r3 := q1.cell 3; go_simp; first | (go_at_call 8; refine (HCT.out _ q2).mono ?_; exact fun e w' h => ⟨h.1, q1.below h.2 q1.lt, q2.trans (h.2.mono q2.size), q3.trans (h.2.mono q3.size)⟩) | (go_at_call 5; refine (HTXT.out _ q2).mono ?_; exact fun e w' h => ⟨h.1, q1.below h.2 q1.lt, q2.trans (h.2.mono q2.size), q3.trans (h.2.mono q3.size)⟩) | (go_at_call 9; refine (HCL.out _).mono ?_; rintro e w' ⟨rfl, rfl⟩; exact ⟨rfl, q1, q2, q3⟩) | rfl)) | ((with_reducible apply QW.skip rfl); · (first | exact ⟨_, _, rfl, rfl, .inl rfl⟩ | exact ⟨_, _, rfl, rfl, .inr rfl⟩)) | ((with_reducible apply QW.take rfl); (· exact ⟨_, rfl, rfl⟩); (· (intro W hW; obtain ⟨q1, q2, q3⟩ := hW; have r0 := q1.cell 0; have r1 := q1.cell 1; have r2 := q1.cell 2; have r3 := q1.cell 3; go_simp; first | (go_at_call 8; refine (HCT.out _ q2).mono ?_; exact fun e w' h => ⟨h.1, q1.below h.2 q1.lt, q2.trans (h.2.mono q2.size), q3.trans (h.2.mono q3.size)⟩) | (go_at_call 5; refine (HTXT.out _ q2).mono ?_; exact fun e w' h => ⟨h.1, q1.below h.2 q1.lt, q2.trans (h.2.mono q2.size), q3.trans (h.2.mono q3.size)⟩) | (go_at_call 9; refine (HCL.out _).mono ?_; rintro e w' ⟨rfl, rfl⟩; exact ⟨rfl, q1, q2, q3⟩) | rfl)))); (try simp only [Act.put, List.setIfInBounds_toArray, List.set_cons_zero, List.set_cons_succ])
      refine QW.nil ?_
      rintro w5 ⟨q1, q2, q3⟩
      go_wp2
      go_ret
      exact ⟨rfl, q3⟩
end Go.Proofs.YtkmcnekjimobhaaDoor
