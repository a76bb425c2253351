/- What well.facts and well.Facts answer. -/
import Derived.Test.YtjmckmjngnmagaaWeC
import Derived.Test.YtjmckmjngnmagaaWeD
import Derived.Deep.LoopGhost
import Derived.Laws.StructEq
namespace Go.Proofs.Ytjmckmjngnmagaa
open Go.RowKit

set_option maxRecDepth 100000 in
set_option maxHeartbeats 4000000 in
theorem fac1_any {g : List Rl} {A : Option Addr} {cp : Nat} {row : Nat → List Value} {kn : List Fa} {KA : Option Addr} {kcp gb i : Nat} {W : World} (hlen : kn.length = g.length) (hG : GrIs W W.heap.size g A cp row) (hF : Reads W W.heap.size 3 KA kn.length (facs kn))
    (hgb : Blk W gb 24 #[.slice A g.length cp]) (hR : ∀ r ∈ g, Rt g r.2) (hi : i < g.length) :
    Calls Try.prog 82 #[.slice KA kn.length kcp, .int .i64 i, .pointer (some ⟨gb, 0, none⟩)] W (OfQ (nxF g kn i) W) := by
  have hm := hG.cap
  have hle := hG.le
  unfold maxLen at hm
  obtain ⟨ad, nm, k', a', b', c', d', t', ks', A', cp', rfl, hab, hej, hnm, hE, hS⟩ := hG.rule hi
  have hx : nxF g kn i = ofE g kn (.mk k' a' b' c' d' t' ks') := by unfold nxF; rw [hej]
  have hcall := fun (W' : World) (h : Below W.heap.size W W') => of_any (fcp := kcp) hlen _ _ W' ((hG.on h).more h.size) ((hF.below h).more h.size) ((hE.on h).keep h.size fun _ _ => rfl) (hR _ (List.mem_of_getElem? hej))
  unfold exCells at hcall
  rw [hx]
  generalize ofE g kn (.mk k' a' b' c' d' t' ks') = x at hcall
  have HC := Lib.hid hcall
  have gl := hgb.lt
  have hcc : ∀ W', Below (W.heap.size + 1) (W.alloc (.cells #[.bool false, .bool false, .bool false] 43)) W' →
      W'.cell? ⟨gb, 0, none⟩ = some (.slice (some ad) g.length cp) ∧ Eight W' (ad.add (i * 8)) nm k' a' b' c' d' t' A' ks'.length cp' := fun W' hW' =>
    have hk := fun (q : Addr) (hq : q.block = (ad.add (i * 8)).block) => (hW'.cell (p := q) (by rw [hq, add_block]; omega)).trans (World.cell?_alloc_lt W _ q (by rw [hq, add_block]; omega))
    ⟨((hgb.alloc _).below hW' (by omega)).cell 0, (hk _ rfl).trans hS.c0, (hk ⟨_, _, none⟩ rfl).trans hS.c1, (hk ⟨_, _, none⟩ rfl).trans hS.c2, (hk ⟨_, _, none⟩ rfl).trans hS.c3, (hk ⟨_, _, none⟩ rfl).trans hS.c4, (hk ⟨_, _, none⟩ rfl).trans hS.c5, (hk ⟨_, _, none⟩ rfl).trans hS.c6, (hk ⟨_, _, none⟩ rfl).trans hS.c7⟩
  have HCC := Lib.hid hcc
  have HLEN := Lib.hid hlen
  clear hcc hS hgb hcall hE hej hx hF hG hR hlen hnm
  go_enter Try.func82, Try.ntmps82
  go_wp2_with fail
  refine wp_region_tail (C := fun W' => Below (W.heap.size + 1) (W.alloc (.cells #[.bool false, .bool false, .bool false] 43)) W') 9 (by kernel_rfl) (by kernel_rfl) (Below.drew (Below.refl _ _)) ?_
  repeat
    (first | refine wpQuiet_no rfl ?_ | (apply wpQuiet_yes rfl; · (intro W hW; obtain ⟨q1, ⟨s0, s1, s2, s3, s4, s5, s6, s7⟩⟩ := HCC.out W hW; go_simp; first | rfl | (go_at_call 83; refine (HC.out _ ((Below.alloc (Below.refl _ _) (Nat.le_refl _) _).trans (hW.mono (by omega)))).mono ?_; exact fun e w' h => ⟨h.1, hW.trans (h.2.mono (by have := hW.size; simp at this; omega))⟩)))); (try simp only [Act.put, List.setIfInBounds_toArray, List.set_cons_zero, List.set_cons_succ])
  refine wpQuiet_nil ?_
  intro w1 hw1
  have hbr : Blk w1 W.heap.size 43 #[.bool false, .bool false, .bool false] := (blk_at rfl).below hw1 (by omega)
  have z0 : w1.cell? ⟨W.heap.size, 0, none⟩ = some (.bool false) := hbr.cell 0; have z1 : w1.cell? ⟨W.heap.size, 1, none⟩ = some (.bool false) := hbr.cell 1; have z2 : w1.cell? ⟨W.heap.size, 2, none⟩ = some (.bool false) := hbr.cell 2; have f0 := hbr.frozen 0; have f1 := hbr.frozen 1; have f2 := hbr.frozen 2; have e0 : (w1.setCell ⟨W.heap.size, 0, none⟩ (.bool x.e)).cell? ⟨W.heap.size, 0, none⟩ = some (.bool x.e) := (hbr.set_ 0 _).cell 0; have e1 : ((w1.setCell ⟨W.heap.size, 0, none⟩ (.bool x.e)).setCell ⟨W.heap.size, 1, none⟩ (.bool x.a)).cell? ⟨W.heap.size, 1, none⟩ = some (.bool x.a) := ((hbr.set_ 0 _).set_ 1 _).cell 1; have e2 : (((w1.setCell ⟨W.heap.size, 0, none⟩ (.bool x.e)).setCell ⟨W.heap.size, 1, none⟩ (.bool x.a)).setCell ⟨W.heap.size, 2, none⟩ (.bool x.f)).cell? ⟨W.heap.size, 2, none⟩ = some (.bool x.f) := (((hbr.set_ 0 _).set_ 1 _).set_ 2 _).cell 2
  have hb1 : Below W.heap.size W w1 := ((Below.refl _ _).alloc (Nat.le_refl _) _).trans (hw1.mono (by omega))
  have hz := hb1.size
  clear hbr hw1
  simp only [List.drop]
  go_wp2
  exact bodyPost_ret (v := .agg #[.bool x.e, .bool x.a, .bool x.f]) (by simp [results, Try.results82, go_sem, e0, e1, e2]) rfl ⟨rfl, (by repeat (first | exact Below.refl _ _ | assumption | refine Below.drew ?_ | refine below_drewN ?_ _ | refine Below.alloc ?_ (by first | omega | (simp; omega) | simp) _ | refine Below.setCell ?_ (by first | omega | (simp; omega) | simp) _))⟩

theorem facs_set : ∀ (fs : List Fa) (i : Nat) (x : Fa), i < fs.length → (((facs fs).set (i * 3) (.bool x.e)).set (i * 3 + 1) (.bool x.a)).set (i * 3 + 2) (.bool x.f) = facs (fs.set i x)
  | [], i, x, h => by simp at h
  | y :: fs, 0, x, _ => by
    show ((([Value.bool y.e, .bool y.a, .bool y.f] ++ facs fs).set 0 _).set 1 _).set 2 _ = [Value.bool x.e, .bool x.a, .bool x.f] ++ facs fs
    rfl
  | y :: fs, i + 1, x, h => by
    have ih := facs_set fs i x (by simpa using h)
    show ((([Value.bool y.e, .bool y.a, .bool y.f] ++ facs fs).set ((i + 1) * 3) _).set ((i + 1) * 3 + 1) _).set ((i + 1) * 3 + 2) _ = [Value.bool y.e, .bool y.a, .bool y.f] ++ facs (fs.set i x)
    rw [← ih]
    have e : (i + 1) * 3 = i * 3 + 3 := by omega
    rw [e]
    rfl
theorem facs_zero (n : Nat) : facs (List.replicate n ⟨false, false, false⟩) = List.replicate (n * 3) (.bool false) := by
  induction n with
  | zero => rfl
  | succ n ih =>
    rw [List.replicate_succ]
    show [Value.bool false, .bool false, .bool false] ++ facs _ = _
    rw [ih, show (n + 1) * 3 = n * 3 + 1 + 1 + 1 by omega, List.replicate_succ, List.replicate_succ, List.replicate_succ]
    rfl
theorem addr0 (b n : Nat) : ((⟨b, 0, none⟩ : Addr).add n) = ⟨b, n, none⟩ := by
  cases n with
  | zero => rfl
  | succ n => simp [Addr.add]
theorem info_facts : (Try.prog.info? 43).map (fun i => (i.zero, i.size, i.bytes)) = some (some (.agg #[.bool false, .bool false, .bool false]), 3, 3) := by kernel_rfl
theorem made_facts (n : Nat) : madeCells (Value.agg #[.bool false, .bool false, .bool false]).cells (n * 3) = (facs (List.replicate n ⟨false, false, false⟩)).toArray := by
  rw [facs_zero]
  apply Array.ext
  · simp [size_madeCells]
  · intro i h1 h2
    simp [madeCells, Value.cells]
    have : i % 3 = 0 ∨ i % 3 = 1 ∨ i % 3 = 2 := by omega
    rcases this with h | h | h <;> simp [h]

/-- the rules' facts in a block of their own -/
def FacB (w : World) (b : Nat) (kn : List Fa) : Prop := Blk w b 43 (facs kn).toArray
theorem FacB.reads {w : World} {b B : Nat} {kn : List Fa} (h : FacB w b kn) (hb : b < B) : Reads w B 3 (some ⟨b, 0, none⟩) kn.length (facs kn) :=
  ⟨facs_len kn, fun _ => ⟨_, rfl, hb, World.news_of_block h⟩⟩
theorem FacB.cells {w : World} {b i : Nat} {kn : List Fa} {x : Fa} (h : FacB w b kn) (hx : kn[i]? = some x) :
    w.cell? ⟨b, i * 3, none⟩ = some (.bool x.e) ∧ w.cell? ⟨b, i * 3 + 1, none⟩ = some (.bool x.a) ∧ w.cell? ⟨b, i * 3 + 2, none⟩ = some (.bool x.f) := by
  have h0 := facs_get kn i 0 x hx (by omega)
  have h1 := facs_get kn i 1 x hx (by omega)
  have h2 := facs_get kn i 2 x hx (by omega)
  refine ⟨(Blk.cell h (i * 3)).trans ?_, (Blk.cell h (i * 3 + 1)).trans ?_, (Blk.cell h (i * 3 + 2)).trans ?_⟩
  · rw [List.getElem?_toArray]; exact h0
  · rw [List.getElem?_toArray]; exact h1
  · rw [List.getElem?_toArray]; exact h2
theorem FacB.put {w : World} {b i : Nat} {kn : List Fa} (h : FacB w b kn) (hi : i < kn.length) (x : Fa) :
    FacB (((w.setCell ⟨b, i * 3, none⟩ (.bool x.e)).setCell ⟨b, i * 3 + 1, none⟩ (.bool x.a)).setCell ⟨b, i * 3 + 2, none⟩ (.bool x.f)) b (kn.set i x) := by
  have h1 := ((Blk.set_ h (i * 3) (.bool x.e)).set_ (i * 3 + 1) (.bool x.a)).set_ (i * 3 + 2) (.bool x.f)
  unfold FacB
  rw [← facs_set kn i x hi]
  simpa using h1

theorem run_same_facts (w : World) (x y : Fa) : (Op.equalIn 10000 43 (.agg #[.bool x.e, .bool x.a, .bool x.f]) (.agg #[.bool y.e, .bool y.a, .bool y.f])).run Try.prog w = .ok (decide (x = y)) w := by
  have u4 := Try.underlying4
  have a4 := Try.isAgg4
  have z4 := Try.sizeOf4
  have hS : Try.prog.underlying 43 = some (.struct (Try.prog.fieldsOf 43)) := by kernel_rfl
  have hp : Try.prog.stoodInHeld 43 = false := by kernel_rfl
  rw [show (10000 : Nat) = 9999 + 1 from rfl, run_equalIn_agg w 9999 43 _ _ hS hp]
  simp only [Program.fieldsOf, Try.underlying43]
  obtain ⟨a, b, c⟩ := x
  obtain ⟨a', b', c'⟩ := y
  go_simp
  cases a <;> cases b <;> cases c <;> cases a' <;> cases b' <;> cases c' <;> simp

set_option maxRecDepth 100000 in
set_option maxHeartbeats 4000000 in
theorem growF_any {g : List Rl} {A : Option Addr} {cp : Nat} {row : Nat → List Value} {w : World} {gb : Nat} (h : GrIs w w.heap.size g A cp row) (hgb : Blk w gb 24 #[.slice A g.length cp]) (hR : ∀ r ∈ g, Rt g r.2) (h10 : g.length ≤ 10) :
    Calls Try.prog 81 #[.int .i64 g.length, .func (.func 82) #[] #[.pointer (some ⟨gb, 0, none⟩)]] w fun e w' => e = .returned (.slice (some ⟨w.heap.size, 0, none⟩) g.length g.length) ∧ FacB w' w.heap.size (factsG g) ∧ Below w.heap.size w w' := by
  obtain ⟨i0, hi, hz0, hz1, hz2⟩ := info_parts info_facts
  have hmk := made_run Try.underlying39 hi hz0 .i64 .i64 (n := g.length) (c := g.length) (Nat.le_refl _) (by rw [hz2]; omega) (by omega)
  rw [hz1, made_facts] at hmk
  have hgl := hgb.lt
  have hnx : ∀ (W : World) (kn : List Fa) (i : Nat), kn.length = g.length → Below w.heap.size w W → FacB W w.heap.size kn → i < g.length →
      Calls Try.prog 82 #[.slice (some ⟨w.heap.size, 0, none⟩) g.length g.length, .int .i64 i, .pointer (some ⟨gb, 0, none⟩)] W (OfQ (nxF g kn i) W) := by
    intro W kn i hlen hW hb hi
    have := fac1_any (kcp := g.length) hlen ((h.on hW).more hW.size) (hb.reads (B := W.heap.size) (Blk.lt hb)) (hgb.below hW hgl) hR hi
    rw [hlen] at this
    exact this
  have HNX := Lib.hid hnx
  have hn0 : (List.replicate g.length (⟨false, false, false⟩ : Fa)).length = g.length := by simp
  have hlow := low_zero g
  have HRES : Hid (factsG g = growG (nxF g) (wtL faOrd (List.replicate g.length ⟨false, false, false⟩) + 1) (List.replicate g.length ⟨false, false, false⟩)) := by exact rfl
  generalize (List.replicate g.length (⟨false, false, false⟩ : Fa)) = k0 at hmk hn0 hlow HRES
  have HN0 := Lib.hid hn0
  have HLOW := Lib.hid hlow
  generalize factsG g = res at HRES ⊢
  clear h hgb hR hnx hn0 hlow hz0 hz1 hz2 hi
  go_enter Try.func81, Try.ntmps81
  go_wp2
  go_loopg [6] (wtL faOrd k0 + 1) (fun n s6 wr => ∃ (kn : List Fa) (m : Bool), s6 = .bool m ∧ Hid (kn.length = g.length) ∧ Hid (Low faOrd (nxF g) kn) ∧ Hid (m = true → wtL faOrd kn < n ∧ growG (nxF g) n kn = res) ∧ Hid (m = false → kn = res) ∧ FacB wr w.heap.size kn ∧ Below w.heap.size w wr)
  case atStart => exact ⟨k0, true, rfl, HN0, HLOW, fun _ => ⟨by omega, HRES.out.symm⟩, (fun h => by cases h), blk_at rfl, (by repeat (first | exact Below.refl _ _ | assumption | refine Below.drew ?_ | refine below_drewN ?_ _ | refine Below.alloc ?_ (by first | omega | (simp; omega) | simp) _ | refine Below.setCell ?_ (by first | omega | (simp; omega) | simp) _))⟩
  case round =>
    obtain ⟨kn, m, rfl, HL, HLO, HT, HFa, hfb, hwr⟩ := hrel
    cases m
    · obtain rfl : kn = res := HFa.out rfl
      go_wp2
      go_ret
      exact ⟨rfl, hfb, hwr⟩
    · obtain ⟨hlt, hgr⟩ := HT.out rfl
      obtain ⟨f, rfl⟩ : ∃ f, gk = f + 1 := ⟨gk - 1, by omega⟩
      have hr0 : Hid (roundG (nxF g) (g.length - 0) 0 kn false = roundG (nxF g) kn.length 0 kn false) := by show _ = _; rw [HL.out, Nat.sub_zero]
      have HGR : Hid ((if (roundG (nxF g) kn.length 0 kn false).2 = true then growG (nxF g) f (roundG (nxF g) kn.length 0 kn false).1 else (roundG (nxF g) kn.length 0 kn false).1) = res) := by
        show _ = _
        rw [← hgr, growG]
      have hk := round_keeps (nx := nxF g) (P := fun l => l.length = g.length ∧ Low faOrd (nxF g) l) (fun l i h hi hne => ⟨by simp; exact h.1, (low_step (by rw [h.1]; exact nxF_mono g _) h.2 hi hne).1⟩) kn.length 0 kn false (by omega) ⟨HL.out, HLO.out⟩
      have hw := round_wt (nxF_mono g g.length) kn.length 0 kn false HL.out (by rw [HL.out]; omega) HLO.out
      generalize roundG (nxF g) kn.length 0 kn false = r at hr0 HGR hk hw
      have HK := Lib.hid hk
      have HW := Lib.hid hw
      have HLT := Lib.hid hlt
      clear HT HFa hgr hk hw hlt HLO
      go_wp2
      go_loopw [6, 14] (fun s6 i wr => ∃ (j : Nat) (kn' : List Fa) (m' : Bool), j ≤ g.length ∧ i = .int .i64 j ∧ s6 = .bool m' ∧ Hid (roundG (nxF g) (g.length - j) j kn' m' = r) ∧ Hid (kn'.length = g.length) ∧ FacB wr w.heap.size kn' ∧ Below w.heap.size w wr) (fun _ i _ => g.length - (intOf i).toNat)
      case atStart => exact ⟨0, kn, false, by omega, rfl, rfl, hr0, HL, hfb, hwr⟩
      case round =>
        clear hfb hwr hr0 HL
        obtain ⟨j, kn', m', hj, rfl, rfl, HR, HL, hfb, hwr⟩ := hrel
        by_cases hjn : j < g.length
        · have hcall := HNX.out wr kn' j HL.out hwr hfb hjn
          have hy : kn'[j]? = some (kn'[j]'(by rw [HL.out]; exact hjn)) := List.getElem?_eq_getElem _
          generalize kn'[j]'(by rw [HL.out]; exact hjn) = y at hy
          have HRS : Hid (roundG (nxF g) (g.length - j) j kn' m' = if nxF g kn' j = y then roundG (nxF g) (g.length - (j + 1)) (j + 1) kn' m' else roundG (nxF g) (g.length - (j + 1)) (j + 1) (kn'.set j (nxF g kn' j)) true) := by
            show _ = _
            rw [show g.length - j = (g.length - (j + 1)) + 1 by omega, roundG, hy]
            by_cases h : nxF g kn' j = y
            · rw [if_pos h, if_pos (by rw [h])]
            · rw [if_neg h, if_neg (fun e => h (by injection e with e; exact e.symm))]
          generalize nxF g kn' j = x at hcall HRS
          have HY := Lib.hid hy
          have HC := Lib.hid hcall
          have hadr := addr0 w.heap.size (j * 3)
          have hbl := Blk.lt hfb
          clear hy hcall
          go_wp2_with fail
          refine HC.out.mono ?_
          rintro e w1 ⟨rfl, hb1⟩
          have hf1 : FacB w1 w.heap.size kn' := Blk.below hfb hb1 hbl
          have hw1 : Below w.heap.size wr w1 := Below.trans (by repeat (first | exact Below.refl _ _ | assumption | refine Below.drew ?_ | refine below_drewN ?_ _ | refine Below.alloc ?_ (by first | omega | (simp; omega) | simp) _ | refine Below.setCell ?_ (by first | omega | (simp; omega) | simp) _)) (hb1.mono (by first | omega | (simp; omega) | simp)); have hzw1 := hw1.size
          have hww : Below w.heap.size w w1 := hwr.trans hw1
          clear hb1
          have hbox : Blk (w1.alloc (.cells #[.bool x.e, .bool x.a, .bool x.f] 43)) w1.heap.size 43 #[.bool x.e, .bool x.a, .bool x.f] := blk_at rfl
          have hq := fun w => run_same_facts w x y
          obtain ⟨eb, hxy⟩ : ∃ eb, decide (x = y) = eb := ⟨_, rfl⟩
          simp only [hxy] at hq
          have HXY := Lib.hid hxy
          clear hxy
          have hf2 : FacB (w1.alloc (.cells #[.bool x.e, .bool x.a, .bool x.f] 43)) w.heap.size kn' := Blk.alloc hf1 _
          have hw2 : Below w.heap.size w (w1.alloc (.cells #[.bool x.e, .bool x.a, .bool x.f] 43)) := (by repeat (first | exact Below.refl _ _ | assumption | refine Below.drew ?_ | refine below_drewN ?_ _ | refine Below.alloc ?_ (by first | omega | (simp; omega) | simp) _ | refine Below.setCell ?_ (by first | omega | (simp; omega) | simp) _))
          go_wp2
          generalize w1.alloc (.cells #[.bool x.e, .bool x.a, .bool x.f] 43) = w2 at hbox hf2 hw2 ⊢
          obtain ⟨c0, c1, c2⟩ := hf2.cells HY.out
          have b0 : w2.cell? ⟨w1.heap.size, 0, none⟩ = some (.bool x.e) := hbox.cell 0
          have b1 : w2.cell? ⟨w1.heap.size, 1, none⟩ = some (.bool x.a) := hbox.cell 1
          have b2 : w2.cell? ⟨w1.heap.size, 2, none⟩ = some (.bool x.f) := hbox.cell 2
          have hj0 : (0 : Int) ≤ (j : Int) := by omega
          have hj1 : (j : Int) < (g.length : Int) := by omega
          go_quiet (fail)
          have hbox3 := hbox.drewN nq
          have hf3 : FacB (w2.drewN nq) w.heap.size kn' := Blk.drewN hf2 nq
          have hw3 : Below w.heap.size w (w2.drewN nq) := below_drewN hw2 nq
          generalize w2.drewN nq = w3 at hbox3 hf3 hw3 ⊢
          clear c0 c1 c2 b0 b1 b2 hbox hf2 hw2 hq
          cases eb
          · have HN : Hid (roundG (nxF g) (g.length - (j + 1)) (j + 1) (kn'.set j x) true = r) := by
              show _ = _
              rw [← HR.out, HRS.out, if_neg (of_decide_eq_false HXY.out)]
            obtain ⟨c0, c1, c2⟩ := hf3.cells HY.out
            have b0 : w3.cell? ⟨w1.heap.size, 0, none⟩ = some (.bool x.e) := hbox3.cell 0
            have b1 : w3.cell? ⟨w1.heap.size, 1, none⟩ = some (.bool x.a) := hbox3.cell 1
            have b2 : w3.cell? ⟨w1.heap.size, 2, none⟩ = some (.bool x.f) := hbox3.cell 2
            have f0 := Blk.frozen hf3 (j * 3)
            have f1 := Blk.frozen hf3 (j * 3 + 1)
            have f2 := Blk.frozen hf3 (j * 3 + 2)
            have hf4 := hf3.put (by rw [HL.out]; exact hjn) x
            have hw4 : Below w.heap.size w (((w3.setCell ⟨w.heap.size, j * 3, none⟩ (.bool x.e)).setCell ⟨w.heap.size, j * 3 + 1, none⟩ (.bool x.a)).setCell ⟨w.heap.size, j * 3 + 2, none⟩ (.bool x.f)) := ((hw3.setCell (Nat.le_refl _) _).setCell (Nat.le_refl _) _).setCell (Nat.le_refl _) _
            have HLL : Hid ((kn'.set j x).length = g.length) := by show _ = _; rw [List.length_set]; exact HL.out
            clear hbox3 hf3 hw3 HRS
            go_wp2
            go_roundw
            case rel => exact ⟨j + 1, kn'.set j x, true, by omega, by go_num, rfl, HN, HLL, hf4, hw4⟩
            case measure => simp [intOf]; omega
          · have HN : Hid (roundG (nxF g) (g.length - (j + 1)) (j + 1) kn' m' = r) := by
              show _ = _
              rw [← HR.out, HRS.out, if_pos (of_decide_eq_true HXY.out)]
            clear HRS
            go_wp2
            go_roundw
            case rel => exact ⟨j + 1, kn', m', by omega, by go_num, rfl, HN, HL, hf3, hw3⟩
            case measure => simp [intOf]; omega
        · obtain rfl : j = g.length := by omega
          obtain rfl : r = (kn', m') := by rw [← HR.out, Nat.sub_self, roundG]
          have hlow := HK.out.1.2
          have hwt := HW.out
          have hlt := HLT.out
          have HLO : Hid (Low faOrd (nxF g) kn') := hlow
          have HT : Hid (m' = true → wtL faOrd kn' < f ∧ growG (nxF g) f kn' = res) := by
            intro hm
            refine ⟨?_, ?_⟩
            · rcases hwt.2 hm with h | h
              · cases h
              · have : wtL faOrd kn' < wtL faOrd kn := h
                omega
            · have := HGR.out
              rw [if_pos hm] at this
              exact this
          have HFa : Hid (m' = false → kn' = res) := by
            intro hm
            have := HGR.out
            rw [if_neg (by simp [hm])] at this
            exact this
          clear hlow hwt hlt HR
          go_wp2
          go_roundg f
          case rel => exact ⟨kn', m', rfl, HL, HLO, HT, HFa, hfb, hwr⟩
          case measure => omega
end Go.Proofs.Ytjmckmjngnmagaa
