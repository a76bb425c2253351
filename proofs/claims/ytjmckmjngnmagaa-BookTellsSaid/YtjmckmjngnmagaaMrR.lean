/- (*runner).run of a name. -/
import Derived.Test.YtjmckmjngnmagaaMrA
import Derived.Test.YtjmckmjngnmagaaQMid
namespace Go.Proofs.Ytjmckmjngnmagaa
open Go.RowKit Go.Maps

set_option maxRecDepth 100000 in
set_option maxHeartbeats 8000000 in
theorem mr_ref {c : RC} {w : World} {l : Nat} (h : Rn c w (l + 1) false) (hl : l + 1 ≤ lots) (a b d1 d2 : Int) (t : ByteArray) (A : Option Addr) (n cp p C : Nat) (o : Option Nat) (j : Nat) (hfd : fnd c.g t.data.toList = (j : Int)) (hj : j < c.g.length)
    (hrun : ∀ (r : Rl) (cs : List Value) (W : World), c.g[j]? = some r → ExIs W c.B r.2 cs → Rn c W l false → Calls Try.prog 53 #[.pointer (some ⟨c.R, 0, none⟩), .agg cs.toArray, .int .i64 p] W (Gone c l C o W)) :
    Calls Try.prog 53 #[.pointer (some ⟨c.R, 0, none⟩), .agg #[.int .i64 4, .int .u64 a, .int .u64 b, .int .u64 d1, .int .u64 d2, .string t, .slice A n cp], .int .i64 p] w (Gone c (l + 1) (1 + C) o w) := by
  have hBR := c.BR
  have hm := h.gram.cap
  have hle := h.gram.le
  unfold maxLen at hm
  obtain ⟨ad, nm, k', a', b', c', d', t', ks', A', cp', hA, hab, hej, hnm, hE, hS⟩ := h.gram.rule hj
  have hfn := fun W (hW : Rn c W l false) => find_any (hW.gram.more (by have := hW.blk.lt; omega)) t
  simp only [hfd, hA] at hfn
  have hcall := fun (W : World) (hW : Rn c W l false) (hb : Below c.B w W) => hrun _ _ W hej ((hE.on hb).keep (Nat.le_refl _) fun _ _ => rfl) hW
  unfold exCells at hcall
  have hcc : ∀ W, Below c.B w W → Eight W (ad.add (j * 8)) nm k' a' b' c' d' t' A' ks'.length cp' := fun W hW =>
    have hk := fun (q : Addr) (hq : q.block = (ad.add (j * 8)).block) => hW.cell (p := q) (by rw [hq, add_block]; omega)
    ⟨(hk _ rfl).trans hS.c0, (hk ⟨_, _, none⟩ rfl).trans hS.c1, (hk ⟨_, _, none⟩ rfl).trans hS.c2, (hk ⟨_, _, none⟩ rfl).trans hS.c3, (hk ⟨_, _, none⟩ rfl).trans hS.c4, (hk ⟨_, _, none⟩ rfl).trans hS.c5, (hk ⟨_, _, none⟩ rfl).trans hS.c6, (hk ⟨_, _, none⟩ rfl).trans hS.c7⟩
  have hB : c.B ≤ w.heap.size := by have := h.blk.lt; omega
  have HA := Lib.hid hA
  have hlt := h.blk.lt
  have s2 := h.c2
  have s3 := h.c3
  have f2 := h.fr 2
  have hpl : ((l + 1 : Nat) : Int) = (l : Int) + 1 := by omega
  rw [hpl] at s2
  have hl0 : ((l : Int) + 1 == 0) = false := by rw [beq_eq_false_iff_ne]; omega
  have hne : w.heap.size ≠ c.R := by omega
  have hl' : l + 1 ≤ 2000000 := hl
  have HN := Lib.hid (RunC.start h #[.int .i64 4, .int .u64 a, .int .u64 b, .int .u64 d1, .int .u64 d2, .string t, .slice A n cp])
  clear h hl
  have HFN := Lib.hid hfn
  have HC := Lib.hid hcall
  have HCC := Lib.hid hcc
  clear hfn hcall hcc hS hE hnm hej hrun hfd hA
  have hj1 : (j : Int) < (c.g.length : Int) := by omega
  go_enter Try.func53, Try.ntmps53
  go_wp2_with fail
  refine wp_region_mid (RunC c w l false #[.int .i64 4, .int .u64 a, .int .u64 b, .int .u64 d1, .int .u64 d2, .string t, .slice A n cp]) 17 _ rfl rfl (by kernel_rfl) (by kernel_rfl) HN.out.drew ?_
  simp only [List.take_succ_cons, List.take_zero]
  repeat
    (first | ((with_reducible apply QW.free rfl); · (intro W hW; have hE0 := HCC.out W (hW.keeps.below hB hBR); obtain ⟨y0, y1, y2, y3, y4, y5, y6, y7⟩ := hE0; have s0 := hW.rn.c0; rw [HA.out] at s0; have t5 := hW.box.cell 5; go_simp; first | (go_at_call 60; refine (HFN.out _ hW.rn).mono ?_; exact fun e w' h => ⟨h.1, hW.below h.2⟩) | rfl)) | ((with_reducible apply QW.skip rfl); · (first | exact ⟨_, _, rfl, rfl, .inl rfl⟩ | exact ⟨_, _, rfl, rfl, .inr rfl⟩)) | ((with_reducible apply QW.take rfl); (· exact ⟨_, rfl, rfl⟩); (· (intro W hW; have hE0 := HCC.out W (hW.keeps.below hB hBR); obtain ⟨y0, y1, y2, y3, y4, y5, y6, y7⟩ := hE0; have s0 := hW.rn.c0; rw [HA.out] at s0; have t5 := hW.box.cell 5; go_simp; first | (go_at_call 60; refine (HFN.out _ hW.rn).mono ?_; exact fun e w' h => ⟨h.1, hW.below h.2⟩) | rfl)))); (try simp only [Act.put, List.setIfInBounds_toArray, List.set_cons_zero, List.set_cons_succ])
  refine QW.nil ?_
  intro w1 h1
  have hE0 := HCC.out w1 (h1.keeps.below hB hBR)
  unfold MidCall
  go_simp
  go_at_call 53
  refine (HC.out _ h1.rn (h1.keeps.below hB hBR)).mono ?_
  rintro e w2 ⟨⟨z, rfl, hz⟩, q1, q2⟩
  generalize hv : (if l < C then none else o) = v at hz ⊢
  have HV := Lib.hid hv
  clear hv
  refine ⟨_, rfl, RunC c w (l - C) (decide (l < C)) #[.int .i64 4, .int .u64 a, .int .u64 b, .int .u64 d1, .int .u64 d2, .string t, .slice A n cp], h1.past hlt q1 q2, ?_⟩
  repeat
    (first | ((with_reducible apply QW.free rfl); · (intro W hW; go_simp; first | rfl)) | ((with_reducible apply QW.skip rfl); · (first | exact ⟨_, _, rfl, rfl, .inl rfl⟩ | exact ⟨_, _, rfl, rfl, .inr rfl⟩)) | ((with_reducible apply QW.take rfl); (· exact ⟨_, rfl, rfl⟩); (· (intro W hW; go_simp; first | rfl)))); (try simp only [Act.put, List.setIfInBounds_toArray, List.set_cons_zero, List.set_cons_succ])
  refine QW.nil ?_
  intro w3 h3
  go_wp2
  go_ret2
  exact Gone.up (w1 := w) ⟨by rw [HV.out]; exact ⟨z, rfl, hz⟩, h3.rn, h3.keeps⟩ (KeepR.refl c w)
end Go.Proofs.Ytjmckmjngnmagaa
