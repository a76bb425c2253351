/- first.First. -/
import Derived.Test.YtjmckmjngnmagaaFiB
import Derived.Test.YtjmckmjngnmagaaWeH
import Derived.BigQuiet
import Derived.Deep.DeepCutAuto
import Derived.Deep.QuietTactic
namespace Go.Proofs.Ytjmckmjngnmagaa
open Go.RowKit

/-- where first.First stands: the grammar, the finder, the facts, what is known -/
structure FirB (A : Option Addr) (cp : Nat) (g : List Rl) (fs : List Fa) (fb bx kb : Nat) (kn : List B4) (w W : World) : Prop where
  bel : Below w.heap.size w W
  gb : Blk W w.heap.size 24 #[.slice A g.length cp]
  fx : Blk W bx 100 #[.slice A g.length cp, .slice (some ⟨fb, 0, none⟩) g.length g.length, .slice (some ⟨kb, 0, none⟩) g.length g.length]
  fac : FacB W fb fs
  set : SetBk W kb kn
  nb : w.heap.size < kb ∧ kb ≠ bx ∧ kb ≠ fb
section
variable {A : Option Addr} {cp : Nat} {g : List Rl} {fs : List Fa} {fb bx kb : Nat} {kn : List B4} {w W W' : World}
theorem FirB.below (h : FirB A cp g fs fb bx kb kn w W) (hb : Below W.heap.size W W') : FirB A cp g fs fb bx kb kn w W' :=
  ⟨h.bel.trans (hb.mono h.bel.size), h.gb.below hb h.gb.lt, h.fx.below hb h.fx.lt, Blk.below h.fac hb (Blk.lt h.fac), Blk.below h.set hb (Blk.lt h.set), h.nb⟩
theorem FirB.alloc (h : FirB A cp g fs fb bx kb kn w W) (o : Obj) : FirB A cp g fs fb bx kb kn w (W.alloc o) := h.below ((Below.refl _ _).alloc (Nat.le_refl _) o)
theorem FirB.drewN (h : FirB A cp g fs fb bx kb kn w W) (d : Nat) : FirB A cp g fs fb bx kb kn w (W.drewN d) := ⟨below_drewN h.bel d, h.gb.drewN d, h.fx.drewN d, Blk.drewN h.fac d, Blk.drewN h.set d, h.nb⟩
theorem FirB.put (h : FirB A cp g fs fb bx kb kn w W) {i : Nat} (hi : i < kn.length) (x : B4) :
    FirB A cp g fs fb bx kb (kn.set i x) w ((((W.setCell ⟨kb, i * 4, none⟩ (.int .u64 x.s4.a)).setCell ⟨kb, i * 4 + 1, none⟩ (.int .u64 x.s4.b)).setCell ⟨kb, i * 4 + 2, none⟩ (.int .u64 x.s4.c)).setCell ⟨kb, i * 4 + 3, none⟩ (.int .u64 x.s4.d)) := by
  obtain ⟨n1, n2, n3⟩ := h.nb
  have hf : ∀ {b : Nat} {t : TypeId} {cs : Array Value}, b ≠ kb → Blk W b t cs → Blk ((((W.setCell ⟨kb, i * 4, none⟩ (.int .u64 x.s4.a)).setCell ⟨kb, i * 4 + 1, none⟩ (.int .u64 x.s4.b)).setCell ⟨kb, i * 4 + 2, none⟩ (.int .u64 x.s4.c)).setCell ⟨kb, i * 4 + 3, none⟩ (.int .u64 x.s4.d)) b t cs := fun hb hk => (((hk.far hb _).far hb _).far hb _).far hb _
  exact ⟨((((h.bel.setCell (by simp; omega) _).setCell (by simp; omega) _).setCell (by simp; omega) _).setCell (by simp; omega) _), hf (by omega) h.gb, hf (by omega) h.fx, hf (by omega) h.fac, h.set.put hi x, h.nb⟩
end
/-- what first.First leaves -/
def FirstQ (g : List Rl) (w : World) (e : Ending) (w' : World) : Prop := Below w.heap.size w w' ∧
  ((checkG g ≠ 0 ∧ e = .returned (.tuple #[.slice none 0 0, .int .i64 (checkG g)])) ∨ (checkG g = 0 ∧ ∃ b, e = .returned (.tuple #[.slice (some ⟨b, 0, none⟩) g.length g.length, .int .i64 0]) ∧ SetBk w' b (firG g)))

set_option maxRecDepth 100000 in
set_option maxHeartbeats 8000000 in
theorem first_any {g : List Rl} {A : Option Addr} {cp : Nat} {row : Nat → List Value} {w : World} (h : GrIs w w.heap.size g A cp row) (hwf : ∀ r ∈ g, WfE r.2) : Calls Try.prog 15 #[.agg #[.slice A g.length cp]] w (FirstQ g w) := by
  have hfa := fun W (hW : Below w.heap.size w W) => wfacts_any ((h.on hW).more hW.size)
  have HFA := Lib.hid hfa
  have hm := h.cap
  have hle := h.le
  unfold maxLen at hm
  by_cases h0 : checkG g = 0
  · have R := right_of h0
    have h10 := R.ten
    obtain ⟨i0, hi, hz0, hz1, hz2⟩ := info_parts info_set
    have hmk := made_run Try.underlying25 hi hz0 .i64 .i64 (n := g.length) (c := g.length) (Nat.le_refl _) (by rw [hz2]; omega) (by omega)
    rw [hz1, made_sets] at hmk
    have hof : ∀ (W : World) (fb bx kb : Nat) (kn : List B4) (j : Nat) (e : Ex) (cs : List Value), kn.length = g.length → j < g.length → FirB A cp g (factsG g) fb bx kb kn w W → ExIs W w.heap.size e cs → Rt g e → WfE e →
        Calls Try.prog 48 #[.pointer (some ⟨bx, 0, none⟩), .agg cs.toArray] W (FirQ (firE g (factsG g) kn e) W) := by
      intro W fb bx kb kn j e cs hkl hj hB hE hR hW
      have hfl := facts_len g
      have hsz := hB.bel.size
      have hr1 := FacB.reads (B := W.heap.size) hB.fac (Blk.lt hB.fac)
      have hr2 := SetBk.reads (B := W.heap.size) hB.set (Blk.lt hB.set)
      have hfx := hB.fx
      refine fof_any (fcp := g.length) (kcp := g.length) (KA := some ⟨kb, 0, none⟩) (FA := some ⟨fb, 0, none⟩) hfl hkl e cs W ((h.on hB.bel).more hsz) hr1 hr2 ?_ (hE.keep hsz fun _ _ => rfl) hR hW
      rw [hfl, hkl]
      exact hfx
    have HOF := Lib.hid hof
    have HG := Lib.hid h
    have HRT := Lib.hid R.rt
    have HWF := Lib.hid hwf
    have H0 := Lib.hid h0
    have hn0 : (List.replicate g.length B4.no).length = g.length := by simp
    have hlow := low_zeroS (g := g) (fs := factsG g)
    have HRES : Hid (firG g = growG (nxS g (factsG g)) (wtL seOrd (List.replicate g.length B4.no) + 1) (List.replicate g.length B4.no)) := by exact rfl
    generalize (List.replicate g.length B4.no) = k0 at hmk hn0 hlow HRES
    have HN0 := Lib.hid hn0
    have HLOW := Lib.hid hlow
    generalize hres : firG g = res at HRES
    have HFG := Lib.hid hres
    clear hres
    clear h hfa hof hwf h0 R hn0 hlow hz0 hz1 hz2 hi
    go_enter Try.func15, Try.ntmps15
    go_wp2_with fail
    refine (HFA.out _ (by repeat (first | exact Below.refl _ _ | assumption | refine Below.drew ?_ | refine below_drewN ?_ _ | refine Below.alloc ?_ (by first | omega | (simp; omega) | simp) _ | refine Below.setCell ?_ (by first | omega | (simp; omega) | simp) _))).mono ?_
    rintro e w1 ⟨hb1, hf⟩
    rcases hf with ⟨hc, _⟩ | ⟨_, fb, rfl, hfb, hfl⟩
    · exact absurd H0.out hc
    have hgx : Blk w1 w.heap.size 24 #[.slice A g.length cp] := (blk_at rfl).below hb1 (by simp)
    have hw1 : Below w.heap.size w w1 := ((Below.refl _ w).alloc (Nat.le_refl _) _).trans (hb1.mono (by simp))
    have hz1 := hw1.size
    have hgl := hgx.lt
    have hfbl : fb < w1.heap.size := Blk.lt hfb
    have g0 : w1.cell? ⟨w.heap.size, 0, none⟩ = some (.slice A g.length cp) := hgx.cell 0
    simp at hfl
    clear hb1
    go_upto_region 4 with fail
    go_cut [6] (fun s6 wx => ∃ bx kb, s6 = .pointer (some ⟨bx, 0, none⟩) ∧ FirB A cp g (factsG g) fb bx kb k0 w wx)
    case first =>
      go_region
      all_goals (go_wp2_with fail; go_meet)
      all_goals
        first
          | exact ⟨w1.heap.size + 1, w1.heap.size, rfl, (by repeat (first | exact Below.refl _ _ | assumption | refine Below.drew ?_ | refine below_drewN ?_ _ | refine Below.alloc ?_ (by first | omega | (simp; omega) | simp) _ | refine Below.setCell ?_ (by first | omega | (simp; omega) | simp) _)), (hgx.alloc _).alloc _, blk_at (by simp), (Blk.alloc (Blk.alloc hfb _) _), Blk.alloc (blk_at rfl) _, by omega, by omega, by omega⟩
          | exact ⟨w1.heap.size, w1.heap.size + 1, rfl, (by repeat (first | exact Below.refl _ _ | assumption | refine Below.drew ?_ | refine below_drewN ?_ _ | refine Below.alloc ?_ (by first | omega | (simp; omega) | simp) _ | refine Below.setCell ?_ (by first | omega | (simp; omega) | simp) _)), (hgx.alloc _).alloc _, Blk.alloc (blk_at rfl) _, (Blk.alloc (Blk.alloc hfb _) _), blk_at (by simp), by omega, by omega, by omega⟩
    case rest =>
    obtain ⟨bx, kb, rfl, hB⟩ := hcut
    clear hgx hw1 hz1 hgl hfbl g0 hfb hfl
    go_wp2
    go_loopg [7] (wtL seOrd k0 + 1) (fun n s7 wr => ∃ (kn : List B4) (m : Bool), s7 = .bool m ∧ Hid (kn.length = g.length) ∧ Hid (Low seOrd (nxS g (factsG g)) kn) ∧ Hid (m = true → wtL seOrd kn < n ∧ growG (nxS g (factsG g)) n kn = res) ∧ Hid (m = false → kn = res) ∧ FirB A cp g (factsG g) fb bx kb kn w wr)
    case atStart => exact ⟨k0, true, rfl, HN0, HLOW, fun _ => ⟨by omega, HRES.out.symm⟩, (fun h => by cases h), hB⟩
    case round =>
      clear hB
      obtain ⟨kn, m, rfl, HL, HLO, HT, HFa, hB⟩ := hrel
      have g0 : wr.cell? ⟨w.heap.size, 0, none⟩ = some (.slice A g.length cp) := hB.gb.cell 0
      have f2 : wr.cell? ⟨bx, 2, none⟩ = some (.slice (some ⟨kb, 0, none⟩) g.length g.length) := hB.fx.cell 2
      cases m
      · obtain rfl : kn = res := HFa.out rfl
        go_wp2
        go_ret2
        exact ⟨hB.bel, .inr ⟨H0.out, kb, rfl, by rw [HFG.out]; exact hB.set⟩⟩
      · obtain ⟨hlt, hgr⟩ := HT.out rfl
        obtain ⟨f, rfl⟩ : ∃ f, gk = f + 1 := ⟨gk - 1, by omega⟩
        have hr0 : Hid (roundG (nxS g (factsG g)) (g.length - 0) 0 kn false = roundG (nxS g (factsG g)) kn.length 0 kn false) := by show _ = _; rw [HL.out, Nat.sub_zero]
        have HGR : Hid ((if (roundG (nxS g (factsG g)) kn.length 0 kn false).2 = true then growG (nxS g (factsG g)) f (roundG (nxS g (factsG g)) kn.length 0 kn false).1 else (roundG (nxS g (factsG g)) kn.length 0 kn false).1) = res) := by
          show _ = _
          rw [← hgr, growG]
        have hk := round_keeps (nx := nxS g (factsG g)) (P := fun l => l.length = g.length ∧ Low seOrd (nxS g (factsG g)) l) (fun l i h hi hne => ⟨by simp; exact h.1, (low_step (by rw [h.1]; exact nxS_mono _) h.2 hi hne).1⟩) kn.length 0 kn false (by omega) ⟨HL.out, HLO.out⟩
        have hw := round_wt (nxS_mono (g := g) (fs := factsG g) g.length) kn.length 0 kn false HL.out (by rw [HL.out]; omega) HLO.out
        generalize roundG (nxS g (factsG g)) kn.length 0 kn false = r at hr0 HGR hk hw
        have HK := Lib.hid hk
        have HW := Lib.hid hw
        have HLT := Lib.hid hlt
        clear HT HFa hgr hk hw hlt HLO
        go_wp2
        go_loopw [7, 30] (fun s7 i wr => ∃ (j : Nat) (kn' : List B4) (m' : Bool), j ≤ g.length ∧ i = .int .i64 j ∧ s7 = .bool m' ∧ Hid (roundG (nxS g (factsG g)) (g.length - j) j kn' m' = r) ∧ Hid (kn'.length = g.length) ∧ FirB A cp g (factsG g) fb bx kb kn' w wr) (fun _ i _ => g.length - (intOf i).toNat)
        case atStart => exact ⟨0, kn, false, by omega, rfl, rfl, hr0, HL, hB⟩
        case round =>
          clear hB hr0 HL g0 f2
          obtain ⟨j, kn', m', hj, rfl, rfl, HR, HL, hB⟩ := hrel
          have hbw := hB.bel
          have hzw := hbw.size
          by_cases hjn : j < g.length
          · obtain ⟨ad, nm, k', a', b', c', d', t', ks', A', cp', rfl, hab, hej, hnm, hE, hS⟩ := (HG.out.on hbw).rule hjn
            have hmem := List.mem_of_getElem? hej
            have hal : FirB (some ad) cp g (factsG g) fb bx kb kn' w (wr.alloc (.cells #[.string nm, .int .i64 k', .int .u64 a', .int .u64 b', .int .u64 c', .int .u64 d', .string t', .slice A' ks'.length cp'] 63)) := hB.alloc _
            have hcall := HOF.out _ fb bx kb kn' j _ _ HL.out hjn hal (hE.on ((Below.refl _ _).alloc hzw (.cells #[.string nm, .int .i64 k', .int .u64 a', .int .u64 b', .int .u64 c', .int .u64 d', .string t', .slice A' ks'.length cp'] 63))) (HRT.out _ hmem) (HWF.out _ hmem)
            unfold exCells at hcall
            have hy : kn'[j]? = some (kn'[j]'(by rw [HL.out]; exact hjn)) := List.getElem?_eq_getElem _
            generalize kn'[j]'(by rw [HL.out]; exact hjn) = y at hy
            have hnx : nxS g (factsG g) kn' j = firE g (factsG g) kn' (.mk k' a' b' c' d' t' ks') := by unfold nxS; rw [hej]
            have HRS : Hid (roundG (nxS g (factsG g)) (g.length - j) j kn' m' = if nxS g (factsG g) kn' j = y then roundG (nxS g (factsG g)) (g.length - (j + 1)) (j + 1) kn' m' else roundG (nxS g (factsG g)) (g.length - (j + 1)) (j + 1) (kn'.set j (nxS g (factsG g) kn' j)) true) := by
              show _ = _
              rw [show g.length - j = (g.length - (j + 1)) + 1 by omega, roundG, hy]
              by_cases h : nxS g (factsG g) kn' j = y
              · rw [if_pos h, if_pos (by rw [h])]
              · rw [if_neg h, if_neg (fun e => h (by injection e with e; exact e.symm))]
            rw [hnx] at HRS
            generalize firE g (factsG g) kn' (.mk k' a' b' c' d' t' ks') = x at hcall HRS
            have HY := Lib.hid hy
            have HC := Lib.hid hcall
            have g0 : wr.cell? ⟨w.heap.size, 0, none⟩ = some (.slice (some ad) g.length cp) := hB.gb.cell 0
            have hjl : (j : Int) < (g.length : Int) := by omega
            have had1 : ad.block < wr.heap.size := by omega
            have hq := fun w => same_b4 w x y
            clear hnx hy hcall hE hej hmem
            obtain ⟨y0, y1, y2, y3, y4, y5, y6, y7⟩ := hS
            go_wp2_with fail
            refine HC.out.mono ?_
            rintro e' w1 ⟨rfl, hb1⟩
            have hB1 := hal.below hb1
            have hB2 : FirB (some ad) cp g (factsG g) fb bx kb kn' w (w1.alloc (.cells #[.int .u64 x.s4.a, .int .u64 x.s4.b, .int .u64 x.s4.c, .int .u64 x.s4.d] 32)) := hB1.alloc _
            have f2 : w1.cell? ⟨bx, 2, none⟩ = some (.slice (some ⟨kb, 0, none⟩) g.length g.length) := hB1.fx.cell 2
            obtain ⟨k0', k1', k2', k3'⟩ := hB1.set.cells HY.out
            have hkb1 : kb < w1.heap.size := Blk.lt hB1.set
            have hbx1 := hB1.fx.lt
            have hkb2 : kb ≠ w1.heap.size := by omega
            have hbx2 : bx ≠ w1.heap.size := by omega
            clear y0 y1 y2 y3 y4 y5 y6 y7 g0 hb1 hal hB HC
            by_cases hxy : x = y
            · have HN : Hid (roundG (nxS g (factsG g)) (g.length - (j + 1)) (j + 1) kn' m' = r) := by
                show _ = _
                rw [← HR.out, HRS.out, if_pos hxy]
              subst hxy
              simp only [decide_true] at hq
              clear HRS
              go_wp2
              go_quiet (fail)
              go_wp2
              go_roundw
              case rel => exact ⟨j + 1, kn', m', by omega, by go_num, rfl, HN, HL, hB2.drewN _⟩
              case measure => simp [intOf]; omega
            · have HN : Hid (roundG (nxS g (factsG g)) (g.length - (j + 1)) (j + 1) (kn'.set j x) true = r) := by
                show _ = _
                rw [← HR.out, HRS.out, if_neg hxy]
              simp only [hxy, decide_false] at hq
              have HLL : Hid ((kn'.set j x).length = g.length) := by show _ = _; rw [List.length_set]; exact HL.out
              have hfz0 := hB1.set
              clear HRS hxy
              go_wp2
              go_quiet (fail)
              have hB3 := hB2.drewN nq
              have hB4 := hB3.put (i := j) (by rw [HL.out]; exact hjn) x
              have HB4 := Lib.hid hB4
              have hfz := fun i => Blk.frozen hB3.set i
              clear hB2 hB4 hfz0
              go_wp2
              go_roundw
              case rel => exact ⟨j + 1, _, true, by omega, by go_num, rfl, HN, HLL, HB4.out⟩
              case measure => simp [intOf]; omega
          · obtain rfl : j = g.length := by omega
            obtain rfl : r = (kn', m') := by rw [← HR.out, Nat.sub_self, roundG]
            have hlow := HK.out.1.2
            have hwt := HW.out
            have hlt := HLT.out
            have HLO : Hid (Low seOrd (nxS g (factsG g)) kn') := hlow
            have HT : Hid (m' = true → wtL seOrd kn' < f ∧ growG (nxS g (factsG g)) f kn' = res) := by
              intro hm
              refine ⟨?_, ?_⟩
              · rcases hwt.2 hm with h | h
                · cases h
                · have : wtL seOrd kn' < wtL seOrd kn := h
                  omega
              · have := HGR.out
                rw [if_pos hm] at this
                exact this
            have HFa : Hid (m' = false → kn' = res) := by
              intro hm
              have := HGR.out
              rw [if_neg (by simp [hm])] at this
              exact this
            clear hlow hwt hlt HR
            go_wp2
            go_roundg f
            case rel => exact ⟨kn', m', rfl, HL, HLO, HT, HFa, hB⟩
            case measure => omega
  · have hxb : (checkG g != 0) = true := by rw [bne_iff_ne]; exact h0
    have H0 := Lib.hid h0
    clear h0 h hfa hwf
    go_enter Try.func15, Try.ntmps15
    go_wp2_with fail
    refine (HFA.out _ (by repeat (first | exact Below.refl _ _ | assumption | refine Below.drew ?_ | refine below_drewN ?_ _ | refine Below.alloc ?_ (by first | omega | (simp; omega) | simp) _ | refine Below.setCell ?_ (by first | omega | (simp; omega) | simp) _))).mono ?_
    rintro e w1 ⟨hb1, hf⟩
    rcases hf with ⟨_, rfl⟩ | ⟨hc, _⟩
    · have hw1 : Below w.heap.size w w1 := ((Below.refl _ w).alloc (Nat.le_refl _) _).trans (hb1.mono (by simp))
      have HX : Hid (FirstQ g w (.returned (.tuple #[.slice none 0 0, .int .i64 (checkG g)])) w1) := ⟨hw1, .inl ⟨H0.out, rfl⟩⟩
      generalize checkG g = x at hxb HX
      clear hb1 hw1
      go_wp2
      go_ret2
      exact HX.out
    · exact absurd hc H0.out
end Go.Proofs.Ytjmckmjngnmagaa
