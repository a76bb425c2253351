/- mean.Run: what it answers. -/
import Derived.Test.YtjmckmjngnmagaaMrF
import Derived.Test.YtjmckmjngnmagaaPlA
namespace Go.Proofs.Ytjmckmjngnmagaa
open Go.RowKit Go.Maps

theorem run_nout0 (w : World) : (Instr.build 47 #[]).run Try.prog w = .ok (.agg #[.bool false, .int .i64 0]) w := by kernel_rfl

set_option maxRecDepth 100000 in
set_option maxHeartbeats 8000000 in
theorem mrun_any {g : List Rl} {A : Option Addr} {cp : Nat} {row : Nat → List Value} {w : World} (h : GrIs w w.heap.size g A cp row) (hwf : ∀ r ∈ g, WfE r.2) (s : ByteArray) (steps : Int) {C : Nat} {o : Option Nat} (hC : Costs g s C o) :
    Calls Try.prog 24 #[.agg #[.slice A g.length cp], .string s, .int .i64 steps] w (MRunQ g s steps C o w) := by
  have hrn := run_nout0
  have hlk := fun W (hW : Below w.heap.size w W) => mlook_any ((h.on hW).more hW.size) s
  have HLK := Lib.hid hlk
  by_cases hl0 : lookG g s = 0
  · rw [hl0] at HLK
    by_cases hbad : steps < 0 ∨ 1048576 < steps
    · have HR : Hid (MRunR g s steps C o none 0 1) := .inr (.inl ⟨hl0, hbad, rfl, rfl, rfl⟩)
      have h4 : steps < 0 ∨ (¬ steps < 0 ∧ 1048576 < steps) := by omega
      clear hbad h hlk hl0 hC
      rcases h4 with h1 | ⟨h1, h2⟩
      all_goals
        go_enter Try.func24, Try.ntmps24
        go_wp2_with fail
        refine (HLK.out _ (by repeat (first | exact Below.refl _ _ | assumption | refine Below.drew ?_ | refine below_drewN ?_ _ | refine Below.alloc ?_ (by first | omega | (simp; omega) | simp) _ | refine Below.setCell ?_ (by first | omega | (simp; omega) | simp) _))).mono ?_
        rintro e w1 ⟨rfl, hb1⟩
        have hw1 : Below w.heap.size w w1 := (((Below.refl _ w).alloc (Nat.le_refl _) _).alloc (by simp) _).trans (hb1.mono (by simp; omega))
        have hox : Blk w1 (w.heap.size + 1) 47 #[.bool false, .int .i64 0] := (blk_at (by simp)).below hb1 (by simp)
        have yz0 : w1.cell? ⟨w.heap.size + 1, 0, none⟩ = some (.bool false) := hox.cell 0; have yz1 : w1.cell? ⟨w.heap.size + 1, 1, none⟩ = some (.int .i64 0) := hox.cell 1; have yf0 := hox.frozen 0; have yf1 := hox.frozen 1; have ye0 : (w1.setCell ⟨w.heap.size + 1, 0, none⟩ (.bool false)).cell? ⟨w.heap.size + 1, 0, none⟩ = some (.bool false) := (hox.set_ 0 _).cell 0; have ye1 : ((w1.setCell ⟨w.heap.size + 1, 0, none⟩ (.bool false)).setCell ⟨w.heap.size + 1, 1, none⟩ (.int .i64 0)).cell? ⟨w.heap.size + 1, 1, none⟩ = some (.int .i64 0) := ((hox.set_ 0 _).set_ 1 _).cell 1
        have hzw := hw1.size
        clear hb1
        go_wp2
        exact bodyPost_ret (v := .tuple #[.agg #[.bool false, .int .i64 0], .int .i64 0, .int .i64 1]) (by simp [results, Try.results24, go_sem, ye0, ye1]) rfl ⟨none, 0, 1, HR.out, rfl, (by repeat (first | exact Below.refl _ _ | assumption | refine Below.drew ?_ | refine below_drewN ?_ _ | refine Below.alloc ?_ (by first | omega | (simp; omega) | simp) _ | refine Below.setCell ?_ (by first | omega | (simp; omega) | simp) _))⟩
    · obtain ⟨L, hL⟩ := Int.eq_ofNat_of_zero_le (show 0 ≤ steps by omega)
      subst hL
      have hLm : L ≤ 1048576 := by omega
      have h1 : ¬ ((L : Int) < 0) := by omega
      have h2 : ¬ ((1048576 : Int) < (L : Int)) := by omega
      clear hbad
      obtain ⟨W0, h60⟩ := look_zero hl0
      obtain ⟨n, r, hr, hev, hcost⟩ := hC hl0
      have hpos := W0.right.pos
      have hm := h.cap
      unfold maxLen at hm
      obtain ⟨ad, nm, k', a', b', c', d', t', ks', A', cp', rfl, hab, hej, hnm, hE, hS⟩ := h.rule hpos
      rw [hr] at hej
      injection hej with hej
      have hlen : s.data.toList.length = s.size := size_list s
      have hrun : ∀ (R : Nat) (W : World) (hBR : w.heap.size ≤ R), Below w.heap.size w W → Rn ⟨w.heap.size, R, some ad, cp, s, g, row, hBR⟩ W L false → Calls Try.prog 53 #[.pointer (some ⟨R, 0, none⟩), .agg #[.int .i64 k', .int .u64 a', .int .u64 b', .int .u64 c', .int .u64 d', .string t', .slice A' ks'.length cp'], .int .i64 0] W (Gone ⟨w.heap.size, R, some ad, cp, s, g, row, hBR⟩ L C o W) := by
        intro R W hBR hW hR
        have F : RC.Fit ⟨w.heap.size, R, some ad, cp, s, g, row, hBR⟩ := ⟨W0.right, hwf, by show s.data.toList.length ≤ 1000; omega⟩
        have := runs F n r.2 0 o (exCells k' a' b' c' d' t' A' ks'.length cp') W L hev (by rw [hej]; exact hE.on hW) ⟨W0.right.rt r (List.mem_of_getElem? hr), hwf r (List.mem_of_getElem? hr)⟩ (by omega) hR (by unfold lots; omega)
        rw [hcost]
        exact this
      have hgr := fun W (hW : Below w.heap.size w W) => h.on hW
      rw [Nat.zero_mul] at hS
      have hS1 : Eight w ad nm k' a' b' c' d' t' A' ks'.length cp' := hS
      have hcc : ∀ W, Below w.heap.size w W → Eight W ad nm k' a' b' c' d' t' A' ks'.length cp' := fun W hW =>
        have hk := fun (q : Addr) (hq : q.block = ad.block) => hW.cell (p := q) (by rw [hq]; omega)
        ⟨(hk _ rfl).trans hS1.c0, (hk ⟨_, _, none⟩ rfl).trans hS1.c1, (hk ⟨_, _, none⟩ rfl).trans hS1.c2, (hk ⟨_, _, none⟩ rfl).trans hS1.c3, (hk ⟨_, _, none⟩ rfl).trans hS1.c4, (hk ⟨_, _, none⟩ rfl).trans hS1.c5, (hk ⟨_, _, none⟩ rfl).trans hS1.c6, (hk ⟨_, _, none⟩ rfl).trans hS1.c7⟩
      have HRUN := Lib.hid hrun
      have HGR := Lib.hid hgr
      have HCC := Lib.hid hcc
      have HL0 := Lib.hid hl0
      have hp1 : (0 : Int) < (g.length : Int) := by omega
      clear hrun hgr hcc hS hS1 hE hnm hej hev hcost hr hC h hlk hwf W0 hl0
      go_enter Try.func24, Try.ntmps24
      go_wp2_with fail
      refine (HLK.out _ (by repeat (first | exact Below.refl _ _ | assumption | refine Below.drew ?_ | refine below_drewN ?_ _ | refine Below.alloc ?_ (by first | omega | (simp; omega) | simp) _ | refine Below.setCell ?_ (by first | omega | (simp; omega) | simp) _))).mono ?_
      rintro e w1 ⟨rfl, hb1⟩
      have hw1 : Below w.heap.size w w1 := (((Below.refl _ w).alloc (Nat.le_refl _) _).alloc (by simp) _).trans (hb1.mono (by simp; omega))
      have hgx : Blk w1 w.heap.size 24 #[.slice (some ad) g.length cp] := ((blk_at rfl).alloc _).below hb1 (by simp; omega)
      have hox : Blk w1 (w.heap.size + 1) 47 #[.bool false, .int .i64 0] := (blk_at (by simp)).below hb1 (by simp)
      have g0 : w1.cell? ⟨w.heap.size, 0, none⟩ = some (.slice (some ad) g.length cp) := hgx.cell 0
      obtain ⟨y0, y1, y2, y3, y4, y5, y6, y7⟩ := HCC.out w1 hw1
      have y2' : w1.cell? ⟨ad.block, ad.off + 1 + 1, none⟩ = some (.int .u64 a') := y2
      have y3' : w1.cell? ⟨ad.block, ad.off + 1 + 2, none⟩ = some (.int .u64 b') := y3
      have y4' : w1.cell? ⟨ad.block, ad.off + 1 + 3, none⟩ = some (.int .u64 c') := y4
      have y5' : w1.cell? ⟨ad.block, ad.off + 1 + 4, none⟩ = some (.int .u64 d') := y5
      have y6' : w1.cell? ⟨ad.block, ad.off + 1 + 5, none⟩ = some (.string t') := y6
      have y7' : w1.cell? ⟨ad.block, ad.off + 1 + 6, none⟩ = some (.slice A' ks'.length cp') := y7
      have hzw := hw1.size
      have hxl := hox.lt
      have hgl := hgx.lt
      have had1 : ad.block < w1.heap.size := by omega
      have had2 : ad.block ≠ w1.heap.size := by omega
      clear hb1
      go_wp2_with fail
      refine (HRUN.out w1.heap.size _ (by omega) (by repeat (first | exact Below.refl _ _ | assumption | refine Below.drew ?_ | refine below_drewN ?_ _ | refine Below.alloc ?_ (by first | omega | (simp; omega) | simp) _ | refine Below.setCell ?_ (by first | omega | (simp; omega) | simp) _)) ⟨blk_at rfl, HGR.out _ (by repeat (first | exact Below.refl _ _ | assumption | refine Below.drew ?_ | refine below_drewN ?_ _ | refine Below.alloc ?_ (by first | omega | (simp; omega) | simp) _ | refine Below.setCell ?_ (by first | omega | (simp; omega) | simp) _))⟩).mono ?_
      rintro e w2 ⟨⟨z, rfl, hz⟩, q1, q2⟩
      have hox2 : Blk w2 (w.heap.size + 1) 47 #[.bool false, .int .i64 0] := q2.box (hox.alloc _) (by show w.heap.size + 1 ≠ w1.heap.size; omega)
      have s2 := q1.c2
      have s3 := q1.c3
      have hw2 : Below w.heap.size w w2 := (hw1.alloc hzw _).trans (q2.below (by simp; omega) (by show w.heap.size ≤ w1.heap.size; omega))
      have hzw2 := hw2.size
      have hxl2 := hox2.lt
      have hRl := q1.blk.lt
      clear y0 y1 y2 y3 y4 y5 y6 y7 y2' y3' y4' y5' y6' y7' g0
      by_cases hlc : L < C
      · rw [if_pos hlc] at hz ⊢
        rw [decide_eq_true hlc] at s3
        have HR : Hid (MRunR g s (L : Int) C o none 0 10) := .inr (.inr (.inl ⟨HL0.out, by omega, by omega, by omega, rfl, rfl, rfl⟩))
        have yz0 : w2.cell? ⟨w.heap.size + 1, 0, none⟩ = some (.bool false) := hox2.cell 0; have yz1 : w2.cell? ⟨w.heap.size + 1, 1, none⟩ = some (.int .i64 0) := hox2.cell 1; have yf0 := hox2.frozen 0; have yf1 := hox2.frozen 1; have ye0 : (w2.setCell ⟨w.heap.size + 1, 0, none⟩ (.bool false)).cell? ⟨w.heap.size + 1, 0, none⟩ = some (.bool false) := (hox2.set_ 0 _).cell 0; have ye1 : ((w2.setCell ⟨w.heap.size + 1, 0, none⟩ (.bool false)).setCell ⟨w.heap.size + 1, 1, none⟩ (.int .i64 0)).cell? ⟨w.heap.size + 1, 1, none⟩ = some (.int .i64 0) := ((hox2.set_ 0 _).set_ 1 _).cell 1
        go_wp2
        exact bodyPost_ret (v := .tuple #[.agg #[.bool false, .int .i64 0], .int .i64 0, .int .i64 10]) (by simp [results, Try.results24, go_sem, ye0, ye1]) rfl ⟨none, 0, 10, HR.out, rfl, (by repeat (first | exact Below.refl _ _ | assumption | refine Below.drew ?_ | refine below_drewN ?_ _ | refine Below.alloc ?_ (by first | omega | (simp; omega) | simp) _ | refine Below.setCell ?_ (by first | omega | (simp; omega) | simp) _))⟩
      · rw [if_neg hlc] at hz ⊢
        rw [decide_eq_false hlc] at s3
        have HR : Hid (MRunR g s (L : Int) C o o C 0) := .inr (.inr (.inr ⟨HL0.out, by omega, by omega, rfl, rfl, rfl⟩))
        have hsub : IntKind.i64.wrap ((L : Int) - ((L - C : Nat) : Int)) = (C : Int) := by rw [show (L : Int) - ((L - C : Nat) : Int) = (C : Int) by omega]; exact wrap_i64 _ (by omega) (by omega)
        generalize ((L - C : Nat) : Int) = LC at s2 hsub
        obtain ⟨b, n0, hb, hbn⟩ : ∃ (b : Bool) (n0 : Int), o.isSome = b ∧ outV o = .agg #[.bool b, .int .i64 n0] := by cases o <;> exact ⟨_, _, rfl, rfl⟩
        have hzn : (if b = false then 0 else z) = n0 := by
          cases o with
          | none => simp [outV] at hb hbn; subst hb; simp [hbn]
          | some q => simp [outV] at hb hbn; subst hb; simp [hz q rfl, hbn.symm]
        rw [hb]
        have HBN := Lib.hid hbn
        have HZN := Lib.hid hzn
        have hbb : (o.isSome = true) = (b = true) := by rw [hb]
        clear hb hbn hzn hz hbb HRUN HLK
        cases b with
        | false =>
          obtain rfl : 0 = n0 := HZN.out
          have yz0 : w2.cell? ⟨w.heap.size + 1, 0, none⟩ = some (.bool false) := hox2.cell 0; have yz1 : w2.cell? ⟨w.heap.size + 1, 1, none⟩ = some (.int .i64 0) := hox2.cell 1; have yf0 := hox2.frozen 0; have yf1 := hox2.frozen 1; have ye0 : (w2.setCell ⟨w.heap.size + 1, 0, none⟩ (.bool false)).cell? ⟨w.heap.size + 1, 0, none⟩ = some (.bool false) := (hox2.set_ 0 _).cell 0; have ye1 : ((w2.setCell ⟨w.heap.size + 1, 0, none⟩ (.bool false)).setCell ⟨w.heap.size + 1, 1, none⟩ (.int .i64 0)).cell? ⟨w.heap.size + 1, 1, none⟩ = some (.int .i64 0) := ((hox2.set_ 0 _).set_ 1 _).cell 1
          go_wp2_with fail
          go_region
          all_goals
            go_wp2
            exact bodyPost_ret (v := .tuple #[.agg #[.bool false, .int .i64 0], .int .i64 C, .int .i64 0]) (by simp [results, Try.results24, go_sem, ye0, ye1]) rfl ⟨o, C, 0, HR.out, by rw [HBN.out], (by repeat (first | exact Below.refl _ _ | assumption | refine Below.drew ?_ | refine below_drewN ?_ _ | refine Below.alloc ?_ (by first | omega | (simp; omega) | simp) _ | refine Below.setCell ?_ (by first | omega | (simp; omega) | simp) _))⟩
        | true =>
          obtain rfl : z = n0 := HZN.out
          have yz0 : w2.cell? ⟨w.heap.size + 1, 0, none⟩ = some (.bool false) := hox2.cell 0; have yz1 : w2.cell? ⟨w.heap.size + 1, 1, none⟩ = some (.int .i64 0) := hox2.cell 1; have yf0 := hox2.frozen 0; have yf1 := hox2.frozen 1; have ye0 : (w2.setCell ⟨w.heap.size + 1, 0, none⟩ (.bool true)).cell? ⟨w.heap.size + 1, 0, none⟩ = some (.bool true) := (hox2.set_ 0 _).cell 0; have ye1 : ((w2.setCell ⟨w.heap.size + 1, 0, none⟩ (.bool true)).setCell ⟨w.heap.size + 1, 1, none⟩ (.int .i64 z)).cell? ⟨w.heap.size + 1, 1, none⟩ = some (.int .i64 z) := ((hox2.set_ 0 _).set_ 1 _).cell 1
          go_wp2_with fail
          go_region
          all_goals
            go_wp2
            exact bodyPost_ret (v := .tuple #[.agg #[.bool true, .int .i64 z], .int .i64 C, .int .i64 0]) (by simp [results, Try.results24, go_sem, ye0, ye1]) rfl ⟨o, C, 0, HR.out, by rw [HBN.out], (by repeat (first | exact Below.refl _ _ | assumption | refine Below.drew ?_ | refine below_drewN ?_ _ | refine Below.alloc ?_ (by first | omega | (simp; omega) | simp) _ | refine Below.setCell ?_ (by first | omega | (simp; omega) | simp) _))⟩
  · have HR : Hid (MRunR g s steps C o none 0 (lookG g s)) := .inl ⟨hl0, rfl, rfl, rfl⟩
    have hxb : (lookG g s != 0) = true := by rw [bne_iff_ne]; exact hl0
    clear hl0 h hlk hC
    generalize lookG g s = x at hxb HLK HR
    go_enter Try.func24, Try.ntmps24
    go_wp2_with fail
    refine (HLK.out _ (by repeat (first | exact Below.refl _ _ | assumption | refine Below.drew ?_ | refine below_drewN ?_ _ | refine Below.alloc ?_ (by first | omega | (simp; omega) | simp) _ | refine Below.setCell ?_ (by first | omega | (simp; omega) | simp) _))).mono ?_
    rintro e w1 ⟨rfl, hb1⟩
    have hw1 : Below w.heap.size w w1 := (((Below.refl _ w).alloc (Nat.le_refl _) _).alloc (by simp) _).trans (hb1.mono (by simp; omega))
    have hox : Blk w1 (w.heap.size + 1) 47 #[.bool false, .int .i64 0] := (blk_at (by simp)).below hb1 (by simp)
    have yz0 : w1.cell? ⟨w.heap.size + 1, 0, none⟩ = some (.bool false) := hox.cell 0; have yz1 : w1.cell? ⟨w.heap.size + 1, 1, none⟩ = some (.int .i64 0) := hox.cell 1; have yf0 := hox.frozen 0; have yf1 := hox.frozen 1; have ye0 : (w1.setCell ⟨w.heap.size + 1, 0, none⟩ (.bool false)).cell? ⟨w.heap.size + 1, 0, none⟩ = some (.bool false) := (hox.set_ 0 _).cell 0; have ye1 : ((w1.setCell ⟨w.heap.size + 1, 0, none⟩ (.bool false)).setCell ⟨w.heap.size + 1, 1, none⟩ (.int .i64 0)).cell? ⟨w.heap.size + 1, 1, none⟩ = some (.int .i64 0) := ((hox.set_ 0 _).set_ 1 _).cell 1
    have hzw := hw1.size
    clear hb1
    go_wp2
    exact bodyPost_ret (v := .tuple #[.agg #[.bool false, .int .i64 0], .int .i64 0, .int .i64 x]) (by simp [results, Try.results24, go_sem, ye0, ye1]) rfl ⟨none, 0, x, HR.out, rfl, (by repeat (first | exact Below.refl _ _ | assumption | refine Below.drew ?_ | refine below_drewN ?_ _ | refine Below.alloc ?_ (by first | omega | (simp; omega) | simp) _ | refine Below.setCell ?_ (by first | omega | (simp; omega) | simp) _))⟩
end Go.Proofs.Ytjmckmjngnmagaa
