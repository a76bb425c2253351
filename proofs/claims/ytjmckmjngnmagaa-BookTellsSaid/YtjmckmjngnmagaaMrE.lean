/- (*runner).run of what has one kid. -/
import Derived.Test.YtjmckmjngnmagaaMrC
import Derived.BigQuiet
import Derived.Deep.QuietTactic
namespace Go.Proofs.Ytjmckmjngnmagaa
open Go.RowKit Go.Maps

theorem cost_kid {g : List Rl} {s : List UInt8} {n : Nat} {k : Int} {e : Ex} {p : Nat} {u : Option Nat} (hk : k ≠ 7) (h : ev g s n e p = some u) : cost g s (n + 1) (.kid k e) p = cost g s n (.ex e) p + (u.elim 0 fun q => if k = 8 then cost g s n (.rep e) q else 0) := by
  have hev : evJ g s n (.ex e) p = some u := h
  cases u with
  | none => simp only [cost, hev, if_neg hk, Nat.add_zero, Option.elim]
  | some tz =>
    by_cases h8 : k = 8
    · simp only [cost, hev, if_neg hk, if_pos h8, Option.elim]
    · simp only [cost, hev, if_neg hk, if_neg h8, Nat.add_zero, Option.elim]
theorem Rn.drewN {c : RC} {w : World} {L : Nat} {ov : Bool} (h : Rn c w L ov) (d : Nat) : Rn c (w.drewN d) L ov := ⟨h.blk.drewN d, h.gram.on (below_drewN (Below.refl _ _) d)⟩
theorem KeepR.drewN {c : RC} {w w' : World} (h : KeepR c w w') (d : Nat) : KeepR c w (w'.drewN d) := ⟨h.os, h.tape, h.output, h.size, h.blk⟩
theorem ret_some {tz : Nat} {z : Int} (h : z = (tz : Int)) : Ret (some tz) (.returned (.tuple #[.int .i64 z, .bool true])) := ⟨z, rfl, fun q hq => by injection hq with hq; rw [h, hq]⟩
theorem ret_none (z : Int) : Ret none (.returned (.tuple #[.int .i64 z, .bool false])) := ⟨z, rfl, fun q hq => by cases hq⟩
/-- short: it did not have enough steps -/
theorem Gone.short {c : RC} {l C x : Nat} {o : Option Nat} {w w' : World} {z : Int} (hx : l < x) (hC : x ≤ C) (hn : Rn c w' (l - x) true) (hk : KeepR c w w') : Gone c (l + 1) (1 + C) o w (.returned (.tuple #[.int .i64 z, .bool false])) w' := by
  refine ⟨?_, ?_, hk⟩
  · rw [if_pos (by omega)]; exact ret_none z
  · rw [show l + 1 - (1 + C) = l - x by omega, decide_eq_true (by omega)]; exact hn
theorem Gone.full {c : RC} {l C : Nat} {o : Option Nat} {w w' : World} {e : Ending} (hx : ¬ l < C) (hr : Ret o e) (hn : Rn c w' (l - C) false) (hk : KeepR c w w') : Gone c (l + 1) (1 + C) o w e w' := by
  refine ⟨?_, ?_, hk⟩
  · rw [if_neg (by omega)]; exact hr
  · rw [show l + 1 - (1 + C) = l - C by omega, decide_eq_false (by omega)]; exact hn

set_option maxRecDepth 100000 in
set_option maxHeartbeats 8000000 in
theorem mr_one {c : RC} (F : c.Fit) {n : Nat} (hR : ∀ m, m ≤ n → DoesRun c m) (hA : ∀ m, m ≤ n → DoesAgain c m) {w : World} {l : Nat} (h : Rn c w (l + 1) false) (hl : l + 1 ≤ lots) (k a b d1 d2 : Int) (t : ByteArray) (e : Ex) (p : Nat) (o : Option Nat) (cs : List Value) (h7 : 7 ≤ k) (h11 : k ≤ 11)
    (hev : evK c.g c.s.data.toList n k e p = some o) (hE : ExIs w c.B (.mk k a b d1 d2 t [e]) cs) (hRt : RtW c.g e) (hp : p ≤ c.s.data.toList.length) :
    Calls Try.prog 53 #[.pointer (some ⟨c.R, 0, none⟩), .agg cs.toArray, .int .i64 p] w (Gone c (l + 1) (1 + cost c.g c.s.data.toList n (.kid k e) p) o w) := by
  have hBR := c.BR
  have hB : c.B ≤ w.heap.size := by have := h.blk.lt; omega
  have H := fits_of F.right
  obtain ⟨ht, KA, kcp, rfl, hkc, hkm, _⟩ := hE.shape
  have hkl : ([e] : List Ex).length = 1 := rfl
  rw [hkl] at hE hkc ⊢
  clear hkl
  unfold exCells
  obtain ⟨ad, k', a', b', c', d', t', ks', A', cp', rfl, hab, hej, hE', hS⟩ := hE.kid (j := 0) (by simp)
  obtain rfl : e = .mk k' a' b' c' d' t' ks' := by simpa using hej
  rw [Nat.zero_mul] at hS
  have hS1 : Seven w ad k' a' b' c' d' t' A' ks'.length cp' := hS
  have hsv := fun W (hW : Below c.B w W) => hS1.keep (w' := W) fun q hq => hW.cell (by rw [hq]; exact hab)
  have hm8 : (1 : Nat) ≤ kcp := hkc
  unfold maxLen at hkm
  have hadR : ad.block ≠ c.R := by omega
  have hadR' : c.R ≠ ad.block := by omega
  have hadw : ad.block < w.heap.size := by omega
  have hcallR := fun (m : Nat) (q L' : Nat) (ov : Bool) (u : Option Nat) (W : World) (hm : m ≤ n) (he : ev c.g c.s.data.toList m (.mk k' a' b' c' d' t' ks') q = some u) (hq : q ≤ c.s.data.toList.length) (hk : KeepR c w W) (hW : Rn c W L' false) (hL' : L' ≤ lots) =>
    hR m hm _ q u _ W L' he (hE'.on (hk.below hB hBR)) hRt hq hW hL'
  have hcallA := fun (m : Nat) (q L' : Nat) (tz : Nat) (W : World) (hm : m ≤ n) (he : evR c.g c.s.data.toList m (.mk k' a' b' c' d' t' ks') q = some (some tz)) (hq : q ≤ c.s.data.toList.length) (hk : KeepR c w W) (hW : Rn c W L' false) (hL' : L' ≤ lots) =>
    hA m hm _ q tz _ W L' he (hE'.on (hk.below hB hBR)) hRt hq hW hL'
  unfold exCells at hcallR hcallA
  have HT := Lib.hid (fun (m q : Nat) (u : Option Nat) (hq : q ≤ c.s.data.toList.length) (he : ev c.g c.s.data.toList m (.mk k' a' b' c' d' t' ks') q = some u) => (told (s := c.s.data.toList) H m).1 _ q u hRt.1 hq he)
  have hlt := h.blk.lt
  have s2 := h.c2
  have s3 := h.c3
  have f2 := h.fr 2
  have hpl : ((l + 1 : Nat) : Int) = (l : Int) + 1 := by omega
  rw [hpl] at s2
  have hl0 : ((l : Int) + 1 == 0) = false := by rw [beq_eq_false_iff_ne]; omega
  have hne : w.heap.size ≠ c.R := by omega
  have hl' : l + 1 ≤ 2000000 := hl
  have HN := Lib.hid (RunC.start h #[.int .i64 k, .int .u64 a, .int .u64 b, .int .u64 d1, .int .u64 d2, .string t, .slice (some ad) 1 kcp])
  clear h hl
  obtain ⟨s10, s11, s12, s13, s14, s15, s16⟩ := hsv (w.setCell ⟨c.R, 2, none⟩ (.int .i64 l)) ((Below.refl _ _).setCell hBR _)
  have HR := Lib.hid hcallR
  have HA := Lib.hid hcallA
  have HSV := Lib.hid hsv
  have hk1 : (k == 1) = false := by rw [beq_eq_false_iff_ne]; omega
  have hk2 : (k == 2) = false := by rw [beq_eq_false_iff_ne]; omega
  have hk3 : (k == 3) = false := by rw [beq_eq_false_iff_ne]; omega
  have hk4 : (k == 4) = false := by rw [beq_eq_false_iff_ne]; omega
  have hk5 : (k == 5) = false := by rw [beq_eq_false_iff_ne]; omega
  have hk6 : (k == 6) = false := by rw [beq_eq_false_iff_ne]; omega
  generalize hX : (Ex.mk k' a' b' c' d' t' ks') = X at hev HR HA HT ⊢
  have hlo : l ≤ lots := by unfold lots; omega
  clear hS hsv hcallR hcallA hE hE' hRt hX hR hA H F hej ht
  cases n with
  | zero => cases hev
  | succ n =>
  rw [evK_s] at hev
  by_cases k7 : k = 7
  · subst k7
    rw [if_pos rfl] at hev
    obtain ⟨tz, rfl⟩ := evR_some _ _ _ _ hev
    have hc0 := HA.out n p l tz _ (by omega) hev hp HN.out.keeps HN.out.rn hlo
    rw [show cost c.g c.s.data.toList (n + 1) (.kid 7 X) p = cost c.g c.s.data.toList n (.rep X) p from rfl]
    generalize cost c.g c.s.data.toList n (.rep X) p = C at hc0 ⊢
    have HC0 := Lib.hid hc0
    clear hc0 hev HA HR HT HSV
    go_enter Try.func53, Try.ntmps53
    go_wp2_with fail
    refine HC0.out.mono ?_
    rintro e' w2 ⟨⟨z, rfl, hz⟩, h1, h2⟩
    have hkk : KeepR c w w2 := HN.out.keeps.trans h2
    have s3 := h1.c3
    by_cases hlc : l < C
    · rw [decide_eq_true hlc] at s3 h1
      go_wp2
      go_quiet (fail)
      go_wp2
      go_ret2
      exact Gone.short (C := C) hlc (Nat.le_refl _) (h1.drewN _) (hkk.drewN _)
    · rw [decide_eq_false hlc] at s3 h1
      obtain rfl := hz hlc
      go_wp2
      go_quiet (fail)
      go_wp2
      go_ret2
      exact Gone.full (C := C) hlc (ret_some rfl) (h1.drewN _) (hkk.drewN _)
  rw [if_neg k7] at hev
  have k7b : (k == 7) = false := by rw [beq_eq_false_iff_ne]; exact k7
  cases he : ev c.g c.s.data.toList n X p with
  | none => rw [he] at hev; cases hev
  | some u =>
  rw [he] at hev
  rw [cost_kid k7 he]
  have hc0 := HR.out n p l false u _ (by omega) he hp HN.out.keeps HN.out.rn hlo
  have ht := HT.out n p u hp he
  generalize cost c.g c.s.data.toList n (.ex X) p = C at hc0 ⊢
  generalize hC2 : (u.elim 0 fun q => if k = 8 then cost c.g c.s.data.toList n (.rep X) q else 0) = C2
  have HCC := Lib.hid hC2
  have HC0 := Lib.hid hc0
  have HTT := Lib.hid ht
  have HEV := Lib.hid hev
  clear hc0 hev HR HT ht he hC2
  go_enter Try.func53, Try.ntmps53
  by_cases k8 : k = 8
  · subst k8
    go_wp2_with fail
    refine HC0.out.mono ?_
    rintro e' w2 ⟨⟨z, rfl, hz⟩, h1, h2⟩
    have hkk : KeepR c w w2 := HN.out.keeps.trans h2
    have hbx := h2.box HN.out.box (by omega)
    by_cases hlc : l < C
    · rw [if_pos hlc] at hz ⊢
      rw [decide_eq_true hlc] at h1
      go_wp2
      go_ret2
      exact Gone.short hlc (Nat.le_add_right _ _) h1 hkk
    · rw [if_neg hlc] at hz ⊢
      rw [decide_eq_false hlc] at h1
      cases u with
      | none =>
        have hev := HEV.out
        simp only [Option.some.injEq] at hev
        rw [if_pos (by simp)] at hev
        subst hev
        obtain rfl : 0 = C2 := HCC.out
        go_wp2
        go_ret2
        exact Gone.full (C := C) hlc (ret_none 0) h1 hkk
      | some q =>
        have hev := HEV.out
        simp only at hev
        rw [if_pos trivial] at hev
        obtain ⟨tz, rfl⟩ := evR_some _ _ _ _ hev
        obtain rfl := hz q rfl
        have hq := HTT.out.2.1
        have hc1 := HA.out n q (l - C) tz w2 (by omega) hev hq hkk h1 (by unfold lots; omega)
        have hcq : cost c.g c.s.data.toList n (.rep X) q = C2 := HCC.out
        rw [hcq] at hc1
        clear hcq
        have HC1 := Lib.hid hc1
        obtain ⟨y0, y1, y2, y3, y4, y5, y6⟩ := HSV.out w2 (hkk.below hB hBR)
        have x6 : w2.cell? ⟨w.heap.size, 6, none⟩ = some (.slice (some ad) 1 kcp) := hbx.cell 6
        clear hc1 hev HA HSV HC0 s10 s11 s12 s13 s14 s15 s16 s2 s3 f2
        go_wp2_with fail
        refine HC1.out.mono ?_
        rintro e' w3 ⟨⟨z, rfl, hz3⟩, h3, h4⟩
        have hk3' : KeepR c w w3 := hkk.trans h4
        have s3 := h3.c3
        by_cases hlc2 : l - C < C2
        · rw [decide_eq_true hlc2] at s3 h3
          go_wp2
          go_quiet (fail)
          go_wp2
          go_ret2
          exact Gone.short (x := C + C2) (by omega) (Nat.le_refl _) (by rw [show l - (C + C2) = l - C - C2 by omega]; exact h3.drewN _) (hk3'.drewN _)
        · rw [decide_eq_false hlc2] at s3 h3
          obtain rfl := hz3 hlc2
          go_wp2
          go_quiet (fail)
          go_wp2
          go_ret2
          exact Gone.full (by omega) (ret_some rfl) (by rw [show l - (C + C2) = l - C - C2 by omega]; exact h3.drewN _) (hk3'.drewN _)
  have hc8 : C2 = 0 := by
    rw [← HCC.out]
    cases u with
    | none => rfl
    | some tz => rw [Option.elim_some, if_neg k8]
  subst hc8
  have k8b : (k == 8) = false := by rw [beq_eq_false_iff_ne]; exact k8
  have hk9 : k = 9 ∨ k = 10 ∨ k = 11 := by omega
  clear HA HSV HCC
  go_wp2_with fail
  refine HC0.out.mono ?_
  rintro e' w2 ⟨⟨z, rfl, hz⟩, h1, h2⟩
  have hkk : KeepR c w w2 := HN.out.keeps.trans h2
  have hbx := h2.box HN.out.box (by omega)
  have x0 : w2.cell? ⟨w.heap.size, 0, none⟩ = some (.int .i64 k) := hbx.cell 0
  clear s10 s11 s12 s13 s14 s15 s16 s2 s3 f2
  have s3 := h1.c3
  have hev := HEV.out
  clear HEV HC0 hbx
  by_cases hlc : l < C
  · rw [if_pos hlc] at hz ⊢
    rw [decide_eq_true hlc] at h1 s3
    rcases hk9 with rfl | rfl | rfl
    · go_wp2
      go_quiet (fail)
      go_wp2
      go_ret2
      exact Gone.short (C := C) hlc (Nat.le_refl _) (h1.drewN _) (hkk.drewN _)
    · go_wp2
      go_ret2
      exact Gone.short (C := C) hlc (Nat.le_refl _) h1 hkk
    · go_wp2
      go_quiet (fail)
      go_wp2
      go_ret2
      exact Gone.short (C := C) hlc (Nat.le_refl _) (h1.drewN _) (hkk.drewN _)
  · rw [if_neg hlc] at hz ⊢
    rw [decide_eq_false hlc] at h1 s3
    cases u with
    | none =>
      simp only [Option.some.injEq] at hev
      rcases hk9 with rfl | rfl | rfl
      · rw [if_neg (by decide)] at hev
        subst hev
        go_wp2
        go_quiet (fail)
        go_wp2
        go_ret2
        exact Gone.full (C := C) hlc (ret_some rfl) (h1.drewN _) (hkk.drewN _)
      · rw [if_pos (by decide)] at hev
        subst hev
        go_wp2
        go_ret2
        exact Gone.full (C := C) hlc (ret_none _) h1 hkk
      · rw [if_neg (by decide)] at hev
        subst hev
        go_wp2
        go_quiet (fail)
        go_wp2
        go_ret2
        exact Gone.full (C := C) hlc (ret_some rfl) (h1.drewN _) (hkk.drewN _)
    | some q =>
      obtain rfl := hz q rfl
      simp only at hev
      rcases hk9 with rfl | rfl | rfl
      · rw [if_neg (by decide), if_pos (by decide)] at hev
        simp only [Option.some.injEq] at hev
        subst hev
        go_wp2
        go_quiet (fail)
        go_wp2
        go_ret2
        exact Gone.full (C := C) hlc (ret_some rfl) (h1.drewN _) (hkk.drewN _)
      · rw [if_neg (by decide), if_neg (by decide), if_pos (by decide)] at hev
        simp only [Option.some.injEq] at hev
        subst hev
        go_wp2
        go_ret2
        exact Gone.full (C := C) hlc (ret_some rfl) h1 hkk
      · rw [if_neg (by decide), if_neg (by decide), if_neg (by decide)] at hev
        simp only [Option.some.injEq] at hev
        subst hev
        go_wp2
        go_quiet (fail)
        go_wp2
        go_ret2
        exact Gone.full (C := C) hlc (ret_none _) (h1.drewN _) (hkk.drewN _)
end Go.Proofs.Ytjmckmjngnmagaa
