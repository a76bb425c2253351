/- What well.facts and well.Facts answer. A quiet walk of a region that draws its order, behind a structure (so that nothing lays it open): steps told by the guard's own value. What well.facts, well.loops answer; plain: loops, sound. Ford: what a grammar does it may do; of a grammar that is well all comes to an end. Plain. -/
import Derived.Test.YtndhbdbfjkmloaaJTopTree4
import Derived.Test.YtndhbdbfjkmloaaJTopTree3
import Derived.Deep.LoopGhost
import Derived.Laws.StructEq
import Derived.Test.YtndhbdbfjkmloaaJTopTree2
namespace Go.Proofs.Ytndhbdbfjkmloaa
open Go.RowKit

set_option maxRecDepth 100000 in
set_option maxHeartbeats 4000000 in
theorem fac1_any {g : List Rl} {A : Option Addr} {cp : Nat} {row : Nat → List Value} {kn : List Fa} {KA : Option Addr} {kcp gb i : Nat} {W : World} (hlen : kn.length = g.length) (hG : GrIs W W.heap.size g A cp row) (hF : Reads W W.heap.size 3 KA kn.length (facs kn))
    (hgb : Blk W gb 35 #[.slice A g.length cp]) (hR : ∀ r ∈ g, Rt g r.2) (hi : i < g.length) :
    Calls Try.prog 68 #[.slice KA kn.length kcp, .int .i64 i, .pointer (some ⟨gb, 0, none⟩)] W (OfQ (nxF g kn i) W) := by
  have hm := hG.cap
  have hle := hG.le
  unfold maxLen at hm
  obtain ⟨ad, nm, k', a', b', c', d', t', ks', A', cp', rfl, hab, hej, hnm, hE, hS⟩ := hG.rule hi
  have hx : nxF g kn i = ofE g kn (.mk k' a' b' c' d' t' ks') := by unfold nxF; rw [hej]
  have hcall := fun (W' : World) (h : Below W.heap.size W W') => of_any (fcp := kcp) hlen _ _ W' ((hG.on h).more h.size) ((hF.below h).more h.size) ((hE.on h).keep h.size fun _ _ => rfl) (hR _ (List.mem_of_getElem? hej))
  unfold exCells at hcall
  rw [hx]
  generalize ofE g kn (.mk k' a' b' c' d' t' ks') = x at hcall
  have HC := Lib.hid hcall
  have gl := hgb.lt
  have hcc : ∀ W', Below (W.heap.size + 1) (W.alloc (.cells #[.bool false, .bool false, .bool false] 137)) W' →
      W'.cell? ⟨gb, 0, none⟩ = some (.slice (some ad) g.length cp) ∧ Eight W' (ad.add (i * 8)) nm k' a' b' c' d' t' A' ks'.length cp' := fun W' hW' =>
    have hk := fun (q : Addr) (hq : q.block = (ad.add (i * 8)).block) => (hW'.cell (p := q) (by rw [hq, add_block]; omega)).trans (World.cell?_alloc_lt W _ q (by rw [hq, add_block]; omega))
    ⟨((hgb.alloc _).below hW' (by omega)).cell 0, (hk _ rfl).trans hS.c0, (hk ⟨_, _, none⟩ rfl).trans hS.c1, (hk ⟨_, _, none⟩ rfl).trans hS.c2, (hk ⟨_, _, none⟩ rfl).trans hS.c3, (hk ⟨_, _, none⟩ rfl).trans hS.c4, (hk ⟨_, _, none⟩ rfl).trans hS.c5, (hk ⟨_, _, none⟩ rfl).trans hS.c6, (hk ⟨_, _, none⟩ rfl).trans hS.c7⟩
  have HCC := Lib.hid hcc
  have HLEN := Lib.hid hlen
  clear hcc hS hgb hcall hE hej hx hF hG hR hlen hnm
  go_enter Try.func68, Try.ntmps68
  go_wp2_with fail
  refine wp_region_tail (C := fun W' => Below (W.heap.size + 1) (W.alloc (.cells #[.bool false, .bool false, .bool false] 137)) W') 9 (by kernel_rfl) (by kernel_rfl) (Below.drew (Below.refl _ _)) ?_
  repeat
    (first | refine wpQuiet_no rfl ?_ | (apply wpQuiet_yes rfl; · (intro W hW; obtain ⟨q1, ⟨s0, s1, s2, s3, s4, s5, s6, s7⟩⟩ := HCC.out W hW; go_simp; first | rfl | (go_at_call 69; refine (HC.out _ ((Below.alloc (Below.refl _ _) (Nat.le_refl _) _).trans (hW.mono (by omega)))).mono ?_; exact fun e w' h => ⟨h.1, hW.trans (h.2.mono (by have := hW.size; simp at this; omega))⟩)))); (try simp only [Act.put, List.setIfInBounds_toArray, List.set_cons_zero, List.set_cons_succ])
  refine wpQuiet_nil ?_
  intro w1 hw1
  have hbr : Blk w1 W.heap.size 137 #[.bool false, .bool false, .bool false] := (blk_at rfl).below hw1 (by omega)
  have z0 : w1.cell? ⟨W.heap.size, 0, none⟩ = some (.bool false) := hbr.cell 0; have z1 : w1.cell? ⟨W.heap.size, 1, none⟩ = some (.bool false) := hbr.cell 1; have z2 : w1.cell? ⟨W.heap.size, 2, none⟩ = some (.bool false) := hbr.cell 2; have f0 := hbr.frozen 0; have f1 := hbr.frozen 1; have f2 := hbr.frozen 2; have e0 : (w1.setCell ⟨W.heap.size, 0, none⟩ (.bool x.e)).cell? ⟨W.heap.size, 0, none⟩ = some (.bool x.e) := (hbr.set_ 0 _).cell 0; have e1 : ((w1.setCell ⟨W.heap.size, 0, none⟩ (.bool x.e)).setCell ⟨W.heap.size, 1, none⟩ (.bool x.a)).cell? ⟨W.heap.size, 1, none⟩ = some (.bool x.a) := ((hbr.set_ 0 _).set_ 1 _).cell 1; have e2 : (((w1.setCell ⟨W.heap.size, 0, none⟩ (.bool x.e)).setCell ⟨W.heap.size, 1, none⟩ (.bool x.a)).setCell ⟨W.heap.size, 2, none⟩ (.bool x.f)).cell? ⟨W.heap.size, 2, none⟩ = some (.bool x.f) := (((hbr.set_ 0 _).set_ 1 _).set_ 2 _).cell 2
  have hb1 : Below W.heap.size W w1 := ((Below.refl _ _).alloc (Nat.le_refl _) _).trans (hw1.mono (by omega))
  have hz := hb1.size
  clear hbr hw1
  simp only [List.drop]
  go_wp2
  exact bodyPost_ret (v := .agg #[.bool x.e, .bool x.a, .bool x.f]) (by simp [results, Try.results68, go_sem, e0, e1, e2]) rfl ⟨rfl, (by repeat (first | exact Below.refl _ _ | assumption | refine Below.drew ?_ | refine below_drewN ?_ _ | refine Below.alloc ?_ (by first | omega | (simp; omega) | simp) _ | refine Below.setCell ?_ (by first | omega | (simp; omega) | simp) _))⟩

theorem facs_set : ∀ (fs : List Fa) (i : Nat) (x : Fa), i < fs.length → (((facs fs).set (i * 3) (.bool x.e)).set (i * 3 + 1) (.bool x.a)).set (i * 3 + 2) (.bool x.f) = facs (fs.set i x)
  | [], i, x, h => by simp at h
  | y :: fs, 0, x, _ => by
    show ((([Value.bool y.e, .bool y.a, .bool y.f] ++ facs fs).set 0 _).set 1 _).set 2 _ = [Value.bool x.e, .bool x.a, .bool x.f] ++ facs fs
    rfl
  | y :: fs, i + 1, x, h => by
    have ih := facs_set fs i x (by simpa using h)
    show ((([Value.bool y.e, .bool y.a, .bool y.f] ++ facs fs).set ((i + 1) * 3) _).set ((i + 1) * 3 + 1) _).set ((i + 1) * 3 + 2) _ = [Value.bool y.e, .bool y.a, .bool y.f] ++ facs (fs.set i x)
    rw [← ih]
    have e : (i + 1) * 3 = i * 3 + 3 := by omega
    rw [e]
    rfl
theorem facs_zero (n : Nat) : facs (List.replicate n ⟨false, false, false⟩) = List.replicate (n * 3) (.bool false) := by
  induction n with
  | zero => rfl
  | succ n ih =>
    rw [List.replicate_succ]
    show [Value.bool false, .bool false, .bool false] ++ facs _ = _
    rw [ih, show (n + 1) * 3 = n * 3 + 1 + 1 + 1 by omega, List.replicate_succ, List.replicate_succ, List.replicate_succ]
    rfl
theorem addr0 (b n : Nat) : ((⟨b, 0, none⟩ : Addr).add n) = ⟨b, n, none⟩ := by
  cases n with
  | zero => rfl
  | succ n => simp [Addr.add]
theorem info_facts : (Try.prog.info? 137).map (fun i => (i.zero, i.size, i.bytes)) = some (some (.agg #[.bool false, .bool false, .bool false]), 3, 3) := by kernel_rfl
theorem made_facts (n : Nat) : madeCells (Value.agg #[.bool false, .bool false, .bool false]).cells (n * 3) = (facs (List.replicate n ⟨false, false, false⟩)).toArray := by
  rw [facs_zero]
  apply Array.ext
  · simp [size_madeCells]
  · intro i h1 h2
    simp [madeCells, Value.cells]
    have : i % 3 = 0 ∨ i % 3 = 1 ∨ i % 3 = 2 := by omega
    rcases this with h | h | h <;> simp [h]

/-- the rules' facts in a block of their own -/
def FacB (w : World) (b : Nat) (kn : List Fa) : Prop := Blk w b 137 (facs kn).toArray
theorem FacB.reads {w : World} {b B : Nat} {kn : List Fa} (h : FacB w b kn) (hb : b < B) : Reads w B 3 (some ⟨b, 0, none⟩) kn.length (facs kn) :=
  ⟨facs_len kn, fun _ => ⟨_, rfl, hb, World.news_of_block h⟩⟩
theorem FacB.cells {w : World} {b i : Nat} {kn : List Fa} {x : Fa} (h : FacB w b kn) (hx : kn[i]? = some x) :
    w.cell? ⟨b, i * 3, none⟩ = some (.bool x.e) ∧ w.cell? ⟨b, i * 3 + 1, none⟩ = some (.bool x.a) ∧ w.cell? ⟨b, i * 3 + 2, none⟩ = some (.bool x.f) := by
  have h0 := facs_get kn i 0 x hx (by omega)
  have h1 := facs_get kn i 1 x hx (by omega)
  have h2 := facs_get kn i 2 x hx (by omega)
  refine ⟨(Blk.cell h (i * 3)).trans ?_, (Blk.cell h (i * 3 + 1)).trans ?_, (Blk.cell h (i * 3 + 2)).trans ?_⟩
  · rw [List.getElem?_toArray]; exact h0
  · rw [List.getElem?_toArray]; exact h1
  · rw [List.getElem?_toArray]; exact h2
theorem FacB.put {w : World} {b i : Nat} {kn : List Fa} (h : FacB w b kn) (hi : i < kn.length) (x : Fa) :
    FacB (((w.setCell ⟨b, i * 3, none⟩ (.bool x.e)).setCell ⟨b, i * 3 + 1, none⟩ (.bool x.a)).setCell ⟨b, i * 3 + 2, none⟩ (.bool x.f)) b (kn.set i x) := by
  have h1 := ((Blk.set_ h (i * 3) (.bool x.e)).set_ (i * 3 + 1) (.bool x.a)).set_ (i * 3 + 2) (.bool x.f)
  unfold FacB
  rw [← facs_set kn i x hi]
  simpa using h1

theorem run_same_facts (w : World) (x y : Fa) : (Op.equalIn 10000 137 (.agg #[.bool x.e, .bool x.a, .bool x.f]) (.agg #[.bool y.e, .bool y.a, .bool y.f])).run Try.prog w = .ok (decide (x = y)) w := by
  have u4 := Try.underlying4
  have a4 := Try.isAgg4
  have z4 := Try.sizeOf4
  have hS : Try.prog.underlying 137 = some (.struct (Try.prog.fieldsOf 137)) := by kernel_rfl
  have hp : Try.prog.stoodInHeld 137 = false := by kernel_rfl
  rw [show (10000 : Nat) = 9999 + 1 from rfl, run_equalIn_agg w 9999 137 _ _ hS hp]
  simp only [Program.fieldsOf, Try.underlying137]
  obtain ⟨a, b, c⟩ := x
  obtain ⟨a', b', c'⟩ := y
  go_simp
  cases a <;> cases b <;> cases c <;> cases a' <;> cases b' <;> cases c' <;> simp

set_option maxRecDepth 100000 in
set_option maxHeartbeats 4000000 in
theorem growF_any {g : List Rl} {A : Option Addr} {cp : Nat} {row : Nat → List Value} {w : World} {gb : Nat} (h : GrIs w w.heap.size g A cp row) (hgb : Blk w gb 35 #[.slice A g.length cp]) (hR : ∀ r ∈ g, Rt g r.2) (h10 : g.length ≤ 10) :
    Calls Try.prog 67 #[.int .i64 g.length, .func (.func 68) #[] #[.pointer (some ⟨gb, 0, none⟩)]] w fun e w' => e = .returned (.slice (some ⟨w.heap.size, 0, none⟩) g.length g.length) ∧ FacB w' w.heap.size (factsG g) ∧ Below w.heap.size w w' := by
  obtain ⟨i0, hi, hz0, hz1, hz2⟩ := info_parts info_facts
  have hmk := made_run Try.underlying112 hi hz0 .i64 .i64 (n := g.length) (c := g.length) (Nat.le_refl _) (by rw [hz2]; omega) (by omega)
  rw [hz1, made_facts] at hmk
  have hgl := hgb.lt
  have hnx : ∀ (W : World) (kn : List Fa) (i : Nat), kn.length = g.length → Below w.heap.size w W → FacB W w.heap.size kn → i < g.length →
      Calls Try.prog 68 #[.slice (some ⟨w.heap.size, 0, none⟩) g.length g.length, .int .i64 i, .pointer (some ⟨gb, 0, none⟩)] W (OfQ (nxF g kn i) W) := by
    intro W kn i hlen hW hb hi
    have := fac1_any (kcp := g.length) hlen ((h.on hW).more hW.size) (hb.reads (B := W.heap.size) (Blk.lt hb)) (hgb.below hW hgl) hR hi
    rw [hlen] at this
    exact this
  have HNX := Lib.hid hnx
  have hn0 : (List.replicate g.length (⟨false, false, false⟩ : Fa)).length = g.length := by simp
  have hlow := low_zero g
  have HRES : Hid (factsG g = growG (nxF g) (wtL faOrd (List.replicate g.length ⟨false, false, false⟩) + 1) (List.replicate g.length ⟨false, false, false⟩)) := by exact rfl
  generalize (List.replicate g.length (⟨false, false, false⟩ : Fa)) = k0 at hmk hn0 hlow HRES
  have HN0 := Lib.hid hn0
  have HLOW := Lib.hid hlow
  generalize factsG g = res at HRES ⊢
  clear h hgb hR hnx hn0 hlow hz0 hz1 hz2 hi
  go_enter Try.func67, Try.ntmps67
  go_wp2
  go_loopg [6] (wtL faOrd k0 + 1) (fun n s6 wr => ∃ (kn : List Fa) (m : Bool), s6 = .bool m ∧ Hid (kn.length = g.length) ∧ Hid (Low faOrd (nxF g) kn) ∧ Hid (m = true → wtL faOrd kn < n ∧ growG (nxF g) n kn = res) ∧ Hid (m = false → kn = res) ∧ FacB wr w.heap.size kn ∧ Below w.heap.size w wr)
  case atStart => exact ⟨k0, true, rfl, HN0, HLOW, fun _ => ⟨by omega, HRES.out.symm⟩, (fun h => by cases h), blk_at rfl, (by repeat (first | exact Below.refl _ _ | assumption | refine Below.drew ?_ | refine below_drewN ?_ _ | refine Below.alloc ?_ (by first | omega | (simp; omega) | simp) _ | refine Below.setCell ?_ (by first | omega | (simp; omega) | simp) _))⟩
  case round =>
    obtain ⟨kn, m, rfl, HL, HLO, HT, HFa, hfb, hwr⟩ := hrel
    cases m
    · obtain rfl : kn = res := HFa.out rfl
      go_wp2
      go_ret
      exact ⟨rfl, hfb, hwr⟩
    · obtain ⟨hlt, hgr⟩ := HT.out rfl
      obtain ⟨f, rfl⟩ : ∃ f, gk = f + 1 := ⟨gk - 1, by omega⟩
      have hr0 : Hid (roundG (nxF g) (g.length - 0) 0 kn false = roundG (nxF g) kn.length 0 kn false) := by show _ = _; rw [HL.out, Nat.sub_zero]
      have HGR : Hid ((if (roundG (nxF g) kn.length 0 kn false).2 = true then growG (nxF g) f (roundG (nxF g) kn.length 0 kn false).1 else (roundG (nxF g) kn.length 0 kn false).1) = res) := by
        show _ = _
        rw [← hgr, growG]
      have hk := round_keeps (nx := nxF g) (P := fun l => l.length = g.length ∧ Low faOrd (nxF g) l) (fun l i h hi hne => ⟨by simp; exact h.1, (low_step (by rw [h.1]; exact nxF_mono g _) h.2 hi hne).1⟩) kn.length 0 kn false (by omega) ⟨HL.out, HLO.out⟩
      have hw := round_wt (nxF_mono g g.length) kn.length 0 kn false HL.out (by rw [HL.out]; omega) HLO.out
      generalize roundG (nxF g) kn.length 0 kn false = r at hr0 HGR hk hw
      have HK := Lib.hid hk
      have HW := Lib.hid hw
      have HLT := Lib.hid hlt
      clear HT HFa hgr hk hw hlt HLO
      go_wp2
      go_loopw [6, 14] (fun s6 i wr => ∃ (j : Nat) (kn' : List Fa) (m' : Bool), j ≤ g.length ∧ i = .int .i64 j ∧ s6 = .bool m' ∧ Hid (roundG (nxF g) (g.length - j) j kn' m' = r) ∧ Hid (kn'.length = g.length) ∧ FacB wr w.heap.size kn' ∧ Below w.heap.size w wr) (fun _ i _ => g.length - (intOf i).toNat)
      case atStart => exact ⟨0, kn, false, by omega, rfl, rfl, hr0, HL, hfb, hwr⟩
      case round =>
        clear hfb hwr hr0 HL
        obtain ⟨j, kn', m', hj, rfl, rfl, HR, HL, hfb, hwr⟩ := hrel
        by_cases hjn : j < g.length
        · have hcall := HNX.out wr kn' j HL.out hwr hfb hjn
          have hy : kn'[j]? = some (kn'[j]'(by rw [HL.out]; exact hjn)) := List.getElem?_eq_getElem _
          generalize kn'[j]'(by rw [HL.out]; exact hjn) = y at hy
          have HRS : Hid (roundG (nxF g) (g.length - j) j kn' m' = if nxF g kn' j = y then roundG (nxF g) (g.length - (j + 1)) (j + 1) kn' m' else roundG (nxF g) (g.length - (j + 1)) (j + 1) (kn'.set j (nxF g kn' j)) true) := by
            show _ = _
            rw [show g.length - j = (g.length - (j + 1)) + 1 by omega, roundG, hy]
            by_cases h : nxF g kn' j = y
            · rw [if_pos h, if_pos (by rw [h])]
            · rw [if_neg h, if_neg (fun e => h (by injection e with e; exact e.symm))]
          generalize nxF g kn' j = x at hcall HRS
          have HY := Lib.hid hy
          have HC := Lib.hid hcall
          have hadr := addr0 w.heap.size (j * 3)
          have hbl := Blk.lt hfb
          clear hy hcall
          go_wp2_with fail
          refine HC.out.mono ?_
          rintro e w1 ⟨rfl, hb1⟩
          have hf1 : FacB w1 w.heap.size kn' := Blk.below hfb hb1 hbl
          have hw1 : Below w.heap.size wr w1 := Below.trans (by repeat (first | exact Below.refl _ _ | assumption | refine Below.drew ?_ | refine below_drewN ?_ _ | refine Below.alloc ?_ (by first | omega | (simp; omega) | simp) _ | refine Below.setCell ?_ (by first | omega | (simp; omega) | simp) _)) (hb1.mono (by first | omega | (simp; omega) | simp)); have hzw1 := hw1.size
          have hww : Below w.heap.size w w1 := hwr.trans hw1
          clear hb1
          have hbox : Blk (w1.alloc (.cells #[.bool x.e, .bool x.a, .bool x.f] 137)) w1.heap.size 137 #[.bool x.e, .bool x.a, .bool x.f] := blk_at rfl
          have hq := fun w => run_same_facts w x y
          obtain ⟨eb, hxy⟩ : ∃ eb, decide (x = y) = eb := ⟨_, rfl⟩
          simp only [hxy] at hq
          have HXY := Lib.hid hxy
          clear hxy
          have hf2 : FacB (w1.alloc (.cells #[.bool x.e, .bool x.a, .bool x.f] 137)) w.heap.size kn' := Blk.alloc hf1 _
          have hw2 : Below w.heap.size w (w1.alloc (.cells #[.bool x.e, .bool x.a, .bool x.f] 137)) := (by repeat (first | exact Below.refl _ _ | assumption | refine Below.drew ?_ | refine below_drewN ?_ _ | refine Below.alloc ?_ (by first | omega | (simp; omega) | simp) _ | refine Below.setCell ?_ (by first | omega | (simp; omega) | simp) _))
          go_wp2
          generalize w1.alloc (.cells #[.bool x.e, .bool x.a, .bool x.f] 137) = w2 at hbox hf2 hw2 ⊢
          obtain ⟨c0, c1, c2⟩ := hf2.cells HY.out
          have b0 : w2.cell? ⟨w1.heap.size, 0, none⟩ = some (.bool x.e) := hbox.cell 0
          have b1 : w2.cell? ⟨w1.heap.size, 1, none⟩ = some (.bool x.a) := hbox.cell 1
          have b2 : w2.cell? ⟨w1.heap.size, 2, none⟩ = some (.bool x.f) := hbox.cell 2
          have hj0 : (0 : Int) ≤ (j : Int) := by omega
          have hj1 : (j : Int) < (g.length : Int) := by omega
          go_quiet (fail)
          have hbox3 := hbox.drewN nq
          have hf3 : FacB (w2.drewN nq) w.heap.size kn' := Blk.drewN hf2 nq
          have hw3 : Below w.heap.size w (w2.drewN nq) := below_drewN hw2 nq
          generalize w2.drewN nq = w3 at hbox3 hf3 hw3 ⊢
          clear c0 c1 c2 b0 b1 b2 hbox hf2 hw2 hq
          cases eb
          · have HN : Hid (roundG (nxF g) (g.length - (j + 1)) (j + 1) (kn'.set j x) true = r) := by
              show _ = _
              rw [← HR.out, HRS.out, if_neg (of_decide_eq_false HXY.out)]
            obtain ⟨c0, c1, c2⟩ := hf3.cells HY.out
            have b0 : w3.cell? ⟨w1.heap.size, 0, none⟩ = some (.bool x.e) := hbox3.cell 0
            have b1 : w3.cell? ⟨w1.heap.size, 1, none⟩ = some (.bool x.a) := hbox3.cell 1
            have b2 : w3.cell? ⟨w1.heap.size, 2, none⟩ = some (.bool x.f) := hbox3.cell 2
            have f0 := Blk.frozen hf3 (j * 3)
            have f1 := Blk.frozen hf3 (j * 3 + 1)
            have f2 := Blk.frozen hf3 (j * 3 + 2)
            have hf4 := hf3.put (by rw [HL.out]; exact hjn) x
            have hw4 : Below w.heap.size w (((w3.setCell ⟨w.heap.size, j * 3, none⟩ (.bool x.e)).setCell ⟨w.heap.size, j * 3 + 1, none⟩ (.bool x.a)).setCell ⟨w.heap.size, j * 3 + 2, none⟩ (.bool x.f)) := ((hw3.setCell (Nat.le_refl _) _).setCell (Nat.le_refl _) _).setCell (Nat.le_refl _) _
            have HLL : Hid ((kn'.set j x).length = g.length) := by show _ = _; rw [List.length_set]; exact HL.out
            clear hbox3 hf3 hw3 HRS
            go_wp2
            go_roundw
            case rel => exact ⟨j + 1, kn'.set j x, true, by omega, by go_num, rfl, HN, HLL, hf4, hw4⟩
            case measure => simp [intOf]; omega
          · have HN : Hid (roundG (nxF g) (g.length - (j + 1)) (j + 1) kn' m' = r) := by
              show _ = _
              rw [← HR.out, HRS.out, if_pos (of_decide_eq_true HXY.out)]
            clear HRS
            go_wp2
            go_roundw
            case rel => exact ⟨j + 1, kn', m', by omega, by go_num, rfl, HN, HL, hf3, hw3⟩
            case measure => simp [intOf]; omega
        · obtain rfl : j = g.length := by omega
          obtain rfl : r = (kn', m') := by rw [← HR.out, Nat.sub_self, roundG]
          have hlow := HK.out.1.2
          have hwt := HW.out
          have hlt := HLT.out
          have HLO : Hid (Low faOrd (nxF g) kn') := hlow
          have HT : Hid (m' = true → wtL faOrd kn' < f ∧ growG (nxF g) f kn' = res) := by
            intro hm
            refine ⟨?_, ?_⟩
            · rcases hwt.2 hm with h | h
              · cases h
              · have : wtL faOrd kn' < wtL faOrd kn := h
                omega
            · have := HGR.out
              rw [if_pos hm] at this
              exact this
          have HFa : Hid (m' = false → kn' = res) := by
            intro hm
            have := HGR.out
            rw [if_neg (by simp [hm])] at this
            exact this
          clear hlow hwt hlt HR
          go_wp2
          go_roundg f
          case rel => exact ⟨kn', m', rfl, HL, HLO, HT, HFa, hfb, hwr⟩
          case measure => omega
end Go.Proofs.Ytndhbdbfjkmloaa
namespace Go.Proofs.Ytndhbdbfjkmloaa

/-- a quiet walk that is still to be done -/
structure QW (P : Program) (ops : Array Oper) (C : World → Prop) (Q : Act → Prop) (l : List Oper) (a : Act) : Prop where
  out : wpQuiet P ops C Q l a
section
variable {P : Program} {ops : Array Oper} {C : World → Prop} {Q : Act → Prop} {o : Oper} {rest : List Oper} {a : Act}
theorem QW.free (hg : o.guard = none) (v : Value) (h1 : ∀ w, C w → o.quietAt P a C w v) (h2 : QW P ops C Q rest (a.put o.dst v)) : QW P ops C Q (o :: rest) a :=
  ⟨wpQuiet_yes (by simp [Region.wanted, hg]) v h1 h2.out⟩
theorem QW.take {j : Nat} {want : Bool} (hg : o.guard = some (j, want)) (hd : ∃ d, (ops[j]?).bind (·.dst) = some d ∧ a.tmps[d]? = some (.bool want)) (v : Value) (h1 : ∀ w, C w → o.quietAt P a C w v) (h2 : QW P ops C Q rest (a.put o.dst v)) : QW P ops C Q (o :: rest) a := by
  obtain ⟨d, hd, hv⟩ := hd
  exact ⟨wpQuiet_yes (by simp [Region.wanted, hg, yielded, hd, hv]) v h1 h2.out⟩
theorem QW.skip {j : Nat} {want : Bool} (hg : o.guard = some (j, want)) (hd : ∃ d u, (ops[j]?).bind (·.dst) = some d ∧ a.tmps[d]? = some u ∧ (u = .bool (!want) ∨ u = undef)) (h2 : QW P ops C Q rest (a.put o.dst undef)) : QW P ops C Q (o :: rest) a := by
  obtain ⟨d, u, hd, hv, hb⟩ := hd
  refine ⟨wpQuiet_no ?_ h2.out⟩
  simp only [Region.wanted, hg, yielded, hd, hv, Option.bind_some]
  rcases hb with rfl | rfl
  · cases want <;> rfl
  · cases want <;> rfl
theorem QW.nil (h : Q a) : QW P ops C Q [] a := ⟨wpQuiet_nil h⟩
/-- the region only reads, and calls what keeps C -/
theorem wp_region_q {id : Nat} {Q : Exit → Act → World → Prop} {w : World} {l : List Oper} (C : World → Prop) (hm : P.follows .mixedOrders = true) (hB : Region.lexB .any l.toArray = true) (hC : C w.drew)
    (h : QW P l.toArray C (fun a' => ∀ w', C w' → Q .normal a' w') l a) : (Code.region id l.toArray true).wp P Q a w :=
  wp_region_quiet (C := C) hm hB hC (by simpa using h.out)
/-- the first n operations do; the others come one by one behind them -/
theorem wp_region_t {id : Nat} {Q : Exit → Act → World → Prop} {w : World} {l : List Oper} (C : World → Prop) (n : Nat) (hm : P.follows .mixedOrders = true) (hB : Region.lexTailB .any l.toArray n = true) (hC : C w.drew)
    (h : QW P l.toArray C (fun a' => ∀ w', C w' → wpList P l.toArray Q (l.drop n) a' w') (l.take n) a) : (Code.region id l.toArray true).wp P Q a w :=
  wp_region_tail C n hm hB hC h.out
end
end Go.Proofs.Ytndhbdbfjkmloaa
namespace Go.Proofs.Ytndhbdbfjkmloaa
open Go.RowKit

set_option maxRecDepth 100000 in
theorem facts_any {g : List Rl} {A : Option Addr} {cp : Nat} {row : Nat → List Value} {w : World} (h : GrIs w w.heap.size g A cp row) (hR : ∀ r ∈ g, Rt g r.2) (h10 : g.length ≤ 10) :
    Calls Try.prog 45 #[.agg #[.slice A g.length cp]] w fun e w' => ∃ b, e = .returned (.slice (some ⟨b, 0, none⟩) g.length g.length) ∧ FacB w' b (factsG g) ∧ w.heap.size ≤ b ∧ Below w.heap.size w w' := by
  have hbg : Blk (w.alloc (.cells #[.slice A g.length cp] 35)) w.heap.size 35 #[.slice A g.length cp] := blk_at rfl
  have hgr := growF_any (w := w.alloc (.cells #[.slice A g.length cp] 35)) ((h.on ((Below.refl _ _).alloc (Nat.le_refl _) _)).more (by simp)) hbg hR h10
  have HG := Lib.hid hgr
  clear hgr h hR hbg
  go_enter Try.func45, Try.ntmps45
  go_wp2_with fail
  refine HG.out.mono ?_
  rintro e w1 ⟨rfl, hf, hb1⟩
  have hw1 : Below w.heap.size w w1 := ((Below.refl _ w).alloc (Nat.le_refl _) _).trans (hb1.mono (by simp))
  clear hb1
  go_wp2
  go_ret
  exact ⟨_, rfl, (by rw [World.size_alloc] at hf; exact hf), by simp, hw1⟩

theorem run_empty (e a f : Bool) (w : World) : (Instr.field 137 (.agg #[.bool e, .bool a, .bool f]) 0).run Try.prog w = .ok (.bool e) w := by kernel_rfl

mutual
/-- is something taken again and again that may take no byte? -/
def loopsE (g : List Rl) (fs : List Fa) : Ex → Bool
  | .mk k _ _ _ _ _ ks => ((k == 7 || k == 8) && (kid0 (ofEs g fs ks)).e) || loopsEs g fs ks
def loopsEs (g : List Rl) (fs : List Fa) : List Ex → Bool
  | [] => false
  | e :: es => loopsE g fs e || loopsEs g fs es
end
mutual
/-- does it come to an end, if the rules do that are known to? -/
def soundE (g : List Rl) (fs : List Fa) (kn : List Bool) : Ex → Bool
  | .mk k _ _ _ _ t ks => if k = 4 then kn.getD (fnd g t.data.toList).toNat false else if k = 5 then soundS g fs kn ks else soundA g fs kn ks
def soundS (g : List Rl) (fs : List Fa) (kn : List Bool) : List Ex → Bool
  | [] => true
  | e :: es => if soundE g fs kn e = false then false else if (ofE g fs e).e = false then true else soundS g fs kn es
def soundA (g : List Rl) (fs : List Fa) (kn : List Bool) : List Ex → Bool
  | [] => true
  | e :: es => if soundE g fs kn e = false then false else soundA g fs kn es
end

/-- the boxes of a grammar and of an expression, one behind the other from block b on -/
structure Box2 (A KA : Option Addr) (m cp kn kcp : Nat) (k a b c d : Int) (t : ByteArray) (w W : World) : Prop where
  bel : Below w.heap.size w W
  x3 : Blk W w.heap.size 35 #[.slice A m cp]
  x5 : Blk W (w.heap.size + 1) 27 #[.int .i64 k, .int .u64 a, .int .u64 b, .int .u64 c, .int .u64 d, .string t, .slice KA kn kcp]
section
variable {A KA : Option Addr} {m cp kn kcp : Nat} {k a b c d : Int} {t : ByteArray} {w W W' : World}
theorem Box2.step (h : Box2 A KA m cp kn kcp k a b c d t w W) {B : Nat} (hb : Below B W W') (hB : W.heap.size ≤ B) : Box2 A KA m cp kn kcp k a b c d t w W' :=
  have hb' := hb.mono hB
  ⟨h.bel.trans (hb'.mono h.bel.size), h.x3.below hb' h.x3.lt, h.x5.below hb' h.x5.lt⟩
theorem Box2.alloc (h : Box2 A KA m cp kn kcp k a b c d t w W) (o : Obj) : Box2 A KA m cp kn kcp k a b c d t w (W.alloc o) := h.step ((Below.refl _ _).alloc (Nat.le_refl _) o) (Nat.le_refl _)
theorem Box2.drew (h : Box2 A KA m cp kn kcp k a b c d t w W) : Box2 A KA m cp kn kcp k a b c d t w W.drew := ⟨h.bel.drew, h.x3, h.x5⟩
end

set_option maxRecDepth 100000 in
set_option maxHeartbeats 8000000 in
theorem loops_any {g : List Rl} {fs : List Fa} {A FA : Option Addr} {cp fcp : Nat} {row : Nat → List Value} (hlen : fs.length = g.length) (e : Ex) : ∀ (cs : List Value) (w : World), GrIs w w.heap.size g A cp row → Reads w w.heap.size 3 FA fs.length (facs fs) →
    ExIs w w.heap.size e cs → Rt g e → Calls Try.prog 46 #[.agg #[.slice A g.length cp], .slice FA fs.length fcp, .agg cs.toArray] w fun e' w' => e' = .returned (.bool (loopsE g fs e)) ∧ Below w.heap.size w w' := by
  refine Ex.ind (P := fun e => ∀ (cs : List Value) (w : World), GrIs w w.heap.size g A cp row → Reads w w.heap.size 3 FA fs.length (facs fs) →
    ExIs w w.heap.size e cs → Rt g e → Calls Try.prog 46 #[.agg #[.slice A g.length cp], .slice FA fs.length fcp, .agg cs.toArray] w fun e' w' => e' = .returned (.bool (loopsE g fs e)) ∧ Below w.heap.size w w') ?_ e
  intro k a b c d t ks ih cs w hG hF hE hR
  cases hR with
  | mk _ _ _ _ _ _ _ hfit hname hkids =>
  obtain ⟨ht, KA, kcp, rfl, hkc, hkm, _⟩ := hE.shape
  unfold exCells
  have hof := fun (j : Nat) (k' a' b' c' d' : Int) (t' : ByteArray) (ks' : List Ex) (A' : Option Addr) (cp' : Nat) (W : World) (hW : Below w.heap.size w W) (hj : ks[j]? = some (.mk k' a' b' c' d' t' ks'))
      (hE' : ExIs W w.heap.size (.mk k' a' b' c' d' t' ks') (exCells k' a' b' c' d' t' A' ks'.length cp')) =>
    of_any (fcp := fcp) hlen _ _ W ((hG.on hW).more hW.size) ((hF.below hW).more hW.size) (hE'.keep hW.size fun _ _ => rfl) (hkids _ (List.mem_of_getElem? hj))
  have hlo := fun (j : Nat) (k' a' b' c' d' : Int) (t' : ByteArray) (ks' : List Ex) (A' : Option Addr) (cp' : Nat) (W : World) (hW : Below w.heap.size w W) (hj : ks[j]? = some (.mk k' a' b' c' d' t' ks'))
      (hE' : ExIs W w.heap.size (.mk k' a' b' c' d' t' ks') (exCells k' a' b' c' d' t' A' ks'.length cp')) =>
    ih _ (List.mem_of_getElem? hj) _ W ((hG.on hW).more hW.size) ((hF.below hW).more hW.size) (hE'.keep hW.size fun _ _ => rfl) (hkids _ (List.mem_of_getElem? hj))
  unfold exCells at hof hlo
  have HOF := Lib.hid hof
  have HLO := Lib.hid hlo
  have HE := Lib.hid hE
  have HLEN := Lib.hid hlen
  have hbox : Box2 A KA g.length cp ks.length kcp k a b c d t w ((w.alloc (.cells #[.slice A g.length cp] 35)).alloc (.cells #[.int .i64 k, .int .u64 a, .int .u64 b, .int .u64 c, .int .u64 d, .string t, .slice KA ks.length kcp] 27)) := ⟨(by repeat (first | exact Below.refl _ _ | assumption | refine Below.drew ?_ | refine below_drewN ?_ _ | refine Below.alloc ?_ (by first | omega | (simp; omega) | simp) _ | refine Below.setCell ?_ (by first | omega | (simp; omega) | simp) _)), (blk_at rfl).alloc _, blk_at (by simp)⟩
  have HX : Hid (loopsE g fs (.mk k a b c d t ks) = (((k == 7 || k == 8) && (kid0 (ofEs g fs ks)).e) || loopsEs g fs ks)) := by show _ = _; rw [loopsE]
  have hfc := fit_cases hfit
  have h18 : (k = 7 ∨ k = 8) → 0 < ks.length := by omega
  have h8 : ks.length ≤ 8 := by omega
  clear hof hlo ih hG hF hE hname hkids hfit hlen hfc
  have hm8 : ks.length ≤ 9223372036854775807 := by omega
  have H8 := Lib.hid h8
  clear h8
  by_cases h78 : k = 7 ∨ k = 8
  · obtain ⟨ad, k', a', b', c', d', t', ks', A', cp', rfl, hab, hej, hE', hS⟩ := HE.out.kid (h18 h78)
    have hkk : kid0 (ofEs g fs ks) = ofE g fs (.mk k' a' b' c' d' t' ks') := of_parts (by rw [ofEs_at, hej]; rfl)
    have hcall := fun W (hW : Below w.heap.size w W) => HOF.out 0 k' a' b' c' d' t' ks' A' cp' W hW hej (hE'.on hW)
    rw [Nat.zero_mul] at hS
    have hS1 : Seven w ad k' a' b' c' d' t' A' ks'.length cp' := hS
    have hsv := fun W (hW : Below w.heap.size w W) => hS1.keep (w' := W) fun q hq => hW.cell (by rw [hq]; exact hab)
    rw [hkk] at HX
    generalize ofE g fs (.mk k' a' b' c' d' t' ks') = x at hcall HX
    have HC := Lib.hid hcall
    have HS := Lib.hid hsv
    have hkl : 0 < ks.length := h18 h78
    have hHX : loopsE g fs (.mk k a b c d t ks) = (x.e || loopsEs g fs ks) := by
      rw [HX.out]
      rcases h78 with rfl | rfl <;> simp
    have HX2 := Lib.hid hHX
    clear hej hE' hS hS1 hcall hsv hkk h18 HOF HX hHX
    have hfe := run_empty x.e x.a x.f
    go_enter Try.func46, Try.ntmps46
    go_wp2_with fail
    refine wp_region_q (Box2 (A := A) (some ad) g.length cp ks.length kcp k a b c d t w) (by kernel_rfl) (by kernel_rfl) hbox.drew ?_
    have h2 : (k == 7) = true ∨ ((k == 7) = false ∧ (k == 8) = true) := by
      rcases h78 with rfl | rfl
      · exact .inl rfl
      · exact .inr ⟨rfl, rfl⟩
    clear h78
    rcases h2 with hz1 | ⟨hz1, hz2⟩
    all_goals
      repeat
        (first | ((with_reducible apply QW.free rfl); · (intro W hW; have q1 := hW.x3.cell 0; have q2 := hW.x5.cell 0; have q3 := hW.x5.cell 6; obtain ⟨s0, s1, s2, s3, s4, s5, s6⟩ := HS.out _ hW.bel; go_simp; first | rfl | (go_at_call 69; refine (HC.out _ hW.bel).mono ?_; exact fun e w' h => ⟨h.1, hW.step h.2 (Nat.le_refl _)⟩))) | ((with_reducible apply QW.skip rfl); · (first | exact ⟨_, _, rfl, rfl, .inl rfl⟩ | exact ⟨_, _, rfl, rfl, .inr rfl⟩)) | ((with_reducible apply QW.take rfl); (· exact ⟨_, rfl, rfl⟩); (· (intro W hW; have q1 := hW.x3.cell 0; have q2 := hW.x5.cell 0; have q3 := hW.x5.cell 6; obtain ⟨s0, s1, s2, s3, s4, s5, s6⟩ := HS.out _ hW.bel; go_simp; first | rfl | (go_at_call 69; refine (HC.out _ hW.bel).mono ?_; exact fun e w' h => ⟨h.1, hW.step h.2 (Nat.le_refl _)⟩))))); (try simp only [Act.put, List.setIfInBounds_toArray, List.set_cons_zero, List.set_cons_succ])
      refine QW.nil ?_
      intro w1 hw1
    all_goals
      have hbw := hw1.bel
      have qq : w1.cell? ⟨w.heap.size + 1, 6, none⟩ = some (.slice (some ad) ks.length kcp) := hw1.x5.cell 6
      cases hxe : x.e
      · have HXX : Hid (loopsEs g fs (ks.drop 0) = loopsE g fs (.mk k a b c d t ks)) := by show _ = _; rw [HX2.out, hxe, Bool.false_or, List.drop_zero]
        clear HX2 hxe hfe HC HS
        go_wp2
        go_loopw [8, 30] (fun _ i wr => ∃ j : Nat, j ≤ ks.length ∧ i = .int .i64 j ∧ Hid (loopsEs g fs (ks.drop j) = loopsE g fs (.mk k a b c d t ks)) ∧ Box2 A (some ad) g.length cp ks.length kcp k a b c d t w wr) (fun _ i _ => ks.length - (intOf i).toNat)
        case atStart => exact ⟨0, by omega, rfl, HXX, hw1⟩
        case round =>
          clear hw1 HXX hbox
          obtain ⟨j, hj, rfl, HR, hwr⟩ := hrel
          have hbel := hwr.bel
          have hz := hbel.size
          have q0 : wr.cell? ⟨w.heap.size, 0, none⟩ = some (.slice A g.length cp) := hwr.x3.cell 0
          have hl3 := hwr.x3.lt
          have hl5 := hwr.x5.lt
          by_cases hjk : j < ks.length
          · obtain ⟨ad2, k', a', b', c', d', t', ks', A', cp', hA2, hab, hej, hE', ⟨e0, e1, e2, e3, e4, e5, e6⟩⟩ := (HE.out.on hbel).kid hjk
            injection hA2 with hA2
            subst hA2
            have hcall := fun W (hW : Below w.heap.size wr W) => HLO.out j k' a' b' c' d' t' ks' A' cp' W (hbel.trans hW) hej (hE'.on hW)
            have HC := Lib.hid hcall
            have HD := Lib.hid (drop_of hej)
            have HRS : Hid (loopsEs g fs (ks.drop j) = (loopsE g fs (.mk k' a' b' c' d' t' ks') || loopsEs g fs (ks.drop (j + 1)))) := by show _ = _; rw [HD.out, loopsEs]
            generalize loopsE g fs (.mk k' a' b' c' d' t' ks') = z at HC HRS
            clear hcall hej hE'
            go_wp2_with fail
            refine (HC.out _ (by repeat (first | exact Below.refl _ _ | assumption | refine Below.drew ?_ | refine below_drewN ?_ _ | refine Below.alloc ?_ (by first | omega | (simp; omega) | simp) _ | refine Below.setCell ?_ (by first | omega | (simp; omega) | simp) _))).mono ?_
            rintro e w2 ⟨rfl, hb2⟩
            have hw2 := (hwr.alloc _).step hb2 (Nat.le_refl _)
            have hbel2 := hw2.bel
            clear hb2 hwr
            cases z
            · have HN : Hid (loopsEs g fs (ks.drop (j + 1)) = loopsE g fs (.mk k a b c d t ks)) := by show _ = _; rw [← HR.out, HRS.out, Bool.false_or]
              clear HRS
              go_wp2
              go_roundw
              case rel => exact ⟨j + 1, by omega, by go_num, HN, hw2⟩
              case measure => simp [intOf]; omega
            · have HN : Hid (loopsE g fs (.mk k a b c d t ks) = true) := by show _ = _; rw [← HR.out, HRS.out, Bool.true_or]
              clear HRS
              go_wp2
              go_ret
              exact ⟨ret_bool HN.out.symm, hbel2⟩
          · obtain rfl : j = ks.length := by omega
            have HN : Hid (loopsE g fs (.mk k a b c d t ks) = false) := by show _ = _; rw [← HR.out, List.drop_length, loopsEs]
            go_wp2
            go_ret
            exact ⟨ret_bool HN.out.symm, hbel⟩
      · have HN := Lib.hid (HX2.out.trans (by rw [hxe, Bool.true_or]))
        clear hxe HX2 hfe
        go_wp2
        go_ret
        exact ⟨ret_bool HN.out.symm, hbw⟩
  · have hz1 : (k == 7) = false := by rw [beq_eq_false_iff_ne]; omega
    have hz2 : (k == 8) = false := by rw [beq_eq_false_iff_ne]; omega
    have HXX : Hid (loopsEs g fs (ks.drop 0) = loopsE g fs (.mk k a b c d t ks)) := by show _ = _; rw [HX.out, hz1, hz2]; simp
    clear h78 h18
    go_enter Try.func46, Try.ntmps46
    go_wp2_with fail
    refine wp_region_q (Box2 A KA g.length cp ks.length kcp k a b c d t w) (by kernel_rfl) (by kernel_rfl) hbox.drew ?_
    repeat
      (first | ((with_reducible apply QW.free rfl); · (intro W hW; have q1 := hW.x3.cell 0; have q2 := hW.x5.cell 0; have q3 := hW.x5.cell 6; go_simp; first | rfl)) | ((with_reducible apply QW.skip rfl); · (first | exact ⟨_, _, rfl, rfl, .inl rfl⟩ | exact ⟨_, _, rfl, rfl, .inr rfl⟩)) | ((with_reducible apply QW.take rfl); (· exact ⟨_, rfl, rfl⟩); (· (intro W hW; have q1 := hW.x3.cell 0; have q2 := hW.x5.cell 0; have q3 := hW.x5.cell 6; go_simp; first | rfl)))); (try simp only [Act.put, List.setIfInBounds_toArray, List.set_cons_zero, List.set_cons_succ])
    refine QW.nil ?_
    intro w1 hw1
    have qq : w1.cell? ⟨w.heap.size + 1, 6, none⟩ = some (.slice KA ks.length kcp) := hw1.x5.cell 6
    go_wp2
    go_loopw [8, 30] (fun _ i wr => ∃ j : Nat, j ≤ ks.length ∧ i = .int .i64 j ∧ Hid (loopsEs g fs (ks.drop j) = loopsE g fs (.mk k a b c d t ks)) ∧ Box2 A KA g.length cp ks.length kcp k a b c d t w wr) (fun _ i _ => ks.length - (intOf i).toNat)
    case atStart => exact ⟨0, by omega, rfl, HXX, hw1⟩
    case round =>
      clear hw1 HXX hbox HX
      obtain ⟨j, hj, rfl, HR, hwr⟩ := hrel
      have hbel := hwr.bel
      have hz := hbel.size
      have q0 : wr.cell? ⟨w.heap.size, 0, none⟩ = some (.slice A g.length cp) := hwr.x3.cell 0
      have hl3 := hwr.x3.lt
      have hl5 := hwr.x5.lt
      by_cases hjk : j < ks.length
      · obtain ⟨ad, k', a', b', c', d', t', ks', A', cp', rfl, hab, hej, hE', ⟨e0, e1, e2, e3, e4, e5, e6⟩⟩ := (HE.out.on hbel).kid hjk
        have hcall := fun W (hW : Below w.heap.size wr W) => HLO.out j k' a' b' c' d' t' ks' A' cp' W (hbel.trans hW) hej (hE'.on hW)
        have HC := Lib.hid hcall
        have HD := Lib.hid (drop_of hej)
        have HRS : Hid (loopsEs g fs (ks.drop j) = (loopsE g fs (.mk k' a' b' c' d' t' ks') || loopsEs g fs (ks.drop (j + 1)))) := by show _ = _; rw [HD.out, loopsEs]
        generalize loopsE g fs (.mk k' a' b' c' d' t' ks') = z at HC HRS
        clear hcall hej hE'
        go_wp2_with fail
        refine (HC.out _ (by repeat (first | exact Below.refl _ _ | assumption | refine Below.drew ?_ | refine below_drewN ?_ _ | refine Below.alloc ?_ (by first | omega | (simp; omega) | simp) _ | refine Below.setCell ?_ (by first | omega | (simp; omega) | simp) _))).mono ?_
        rintro e w2 ⟨rfl, hb2⟩
        have hw2 := (hwr.alloc _).step hb2 (Nat.le_refl _)
        have hbel2 := hw2.bel
        clear hb2 hwr
        cases z
        · have HN : Hid (loopsEs g fs (ks.drop (j + 1)) = loopsE g fs (.mk k a b c d t ks)) := by show _ = _; rw [← HR.out, HRS.out, Bool.false_or]
          clear HRS
          go_wp2
          go_roundw
          case rel => exact ⟨j + 1, by omega, by go_num, HN, hw2⟩
          case measure => simp [intOf]; omega
        · have HN : Hid (loopsE g fs (.mk k a b c d t ks) = true) := by show _ = _; rw [← HR.out, HRS.out, Bool.true_or]
          clear HRS
          go_wp2
          go_ret
          exact ⟨ret_bool HN.out.symm, hbel2⟩
      · obtain rfl : j = ks.length := by omega
        have HN : Hid (loopsE g fs (.mk k a b c d t ks) = false) := by show _ = _; rw [← HR.out, List.drop_length, loopsEs]
        go_wp2
        go_ret
        exact ⟨ret_bool HN.out.symm, hbel⟩
end Go.Proofs.Ytndhbdbfjkmloaa
namespace Go.Proofs.Ytndhbdbfjkmloaa

/-- what an outcome is allowed by facts -/
def Told (x : Fa) (p len : Nat) (o : Option Nat) : Prop := match o with
  | none => x.f = true
  | some to => p ≤ to ∧ to ≤ len ∧ (to = p → x.e = true) ∧ (p < to → x.a = true)
/-- all rules do what their facts tell -/
structure Fits (g : List Rl) (fs : List Fa) : Prop where
  len : fs.length = g.length
  fix : ∀ (i : Nat) (r : Rl), g[i]? = some r → fs[i]? = some (ofE g fs r.2)
  right : ∀ r ∈ g, Rt g r.2

theorem litAt_le {s : List UInt8} {p : Nat} {t : List UInt8} (h : litAt s p t = true) (hp : p ≤ s.length) : p + t.length ≤ s.length := by
  unfold litAt at h
  have := (List.isPrefixOf_iff_prefix.1 h).length_le
  rw [List.length_drop] at this
  omega
theorem fnd_at {g : List Rl} {t : List UInt8} (h : 0 ≤ fnd g t) : ∃ r, g[(fnd g t).toNat]? = some r ∧ r.1.data.toList = t := by
  suffices hh : ∀ (g : List Rl) (i : Nat), 0 ≤ fndFrom g t i → ∃ r, i ≤ (fndFrom g t i).toNat ∧ g[(fndFrom g t i).toNat - i]? = some r ∧ r.1.data.toList = t by
    obtain ⟨r, _, h2, h3⟩ := hh g 0 h
    exact ⟨r, by simpa [fnd] using h2, h3⟩
  intro g
  induction g with
  | nil => intro i h; simp [fndFrom] at h
  | cons r rs ih =>
    intro i h
    unfold fndFrom at h ⊢
    split
    · rename_i he
      exact ⟨r, by simp, by simp, he⟩
    · rename_i he
      rw [if_neg he] at h
      obtain ⟨r', h1, h2, h3⟩ := ih (i + 1) h
      refine ⟨r', by omega, ?_, h3⟩
      rw [show (fndFrom rs t (i + 1)).toNat - i = ((fndFrom rs t (i + 1)).toNat - (i + 1)) + 1 by omega, List.getElem?_cons_succ]
      exact h2

section
variable {g : List Rl} {s : List UInt8} {fs : List Fa}

theorem told_seq {x y : Fa} {p q len : Nat} {o : Option Nat} (h1 : Told x p len (some q)) (h2 : Told y q len o) : Told (thenF x y) p len o := by
  obtain ⟨a1, a2, a3, a4⟩ := h1
  cases o with
  | none =>
    show (thenF x y).f = true
    have hy : y.f = true := h2
    simp only [thenF, Bool.or_eq_true, Bool.and_eq_true]
    by_cases hpq : q = p
    · exact .inr ⟨.inl (a3 hpq), hy⟩
    · exact .inr ⟨.inr (a4 (by omega)), hy⟩
  | some to =>
    obtain ⟨b1, b2, b3, b4⟩ := h2
    refine ⟨by omega, b2, fun h => ?_, fun h => ?_⟩
    · simp only [thenF, Bool.and_eq_true]
      exact ⟨a3 (by omega), b3 (by omega)⟩
    · simp only [thenF, Bool.or_eq_true, Bool.and_eq_true]
      by_cases hpq : q = p
      · exact .inr ⟨a3 hpq, b4 (by omega)⟩
      · by_cases hqt : to = q
        · exact .inl ⟨a4 (by omega), .inl (b3 hqt)⟩
        · exact .inl ⟨a4 (by omega), .inr (b4 (by omega))⟩
theorem told_fail {x y : Fa} {p len : Nat} (h : Told x p len none) : Told (thenF x y) p len none := by
  show (thenF x y).f = true
  have : x.f = true := h
  simp [thenF, this]
theorem told (H : Fits g fs) : ∀ n, (∀ e p o, Rt g e → p ≤ s.length → ev g s n e p = some o → Told (ofE g fs e) p s.length o) ∧
    (∀ k e p o, (∃ a b c d t, Rt g (.mk k a b c d t [e])) → 7 ≤ k → k ≤ 11 → Rt g e → p ≤ s.length → evK g s n k e p = some o →
      Told (if k = 7 then starF (ofE g fs e) else if k = 8 then thenF (ofE g fs e) (starF (ofE g fs e)) else if k = 9 then orF (ofE g fs e) ⟨true, false, false⟩ else if k = 10 then ⟨(ofE g fs e).e || (ofE g fs e).a, false, (ofE g fs e).f⟩ else ⟨(ofE g fs e).f, false, (ofE g fs e).e || (ofE g fs e).a⟩) p s.length o) ∧
    (∀ es p o x q, (∀ e ∈ es, Rt g e) → q ≤ p → p ≤ s.length → Told x q s.length (some p) → evS g s n es p = some o → Told ((ofEs g fs es).foldl thenF x) q s.length o) ∧
    (∀ es p o, (∀ e ∈ es, Rt g e) → es ≠ [] → p ≤ s.length → evA g s n es p = some o → Told (altF (ofEs g fs es)) p s.length o) ∧
    (∀ e p q o, Rt g e → q ≤ p → p ≤ s.length → (q < p → (ofE g fs e).a = true) → evR g s n e p = some o → Told (starF (ofE g fs e)) q s.length o) := by
  intro n
  induction n with
  | zero => exact ⟨fun e p o _ _ h => (by cases h), fun k e p o _ _ _ _ _ h => (by cases h), fun es p o x q _ _ _ _ h => (by cases h), fun es p o _ _ _ h => (by cases h), fun e p q o _ _ _ _ h => (by cases h)⟩
  | succ n ih =>
    obtain ⟨h1, h2, h3, h4, h5⟩ := ih
    refine ⟨?_, ?_, ?_, ?_, ?_⟩
    · rintro e p o hR hp h
      have hR0 := hR
      cases hR with
      | mk k a b c d t ks hfit hname hkids =>
      have hfc := fit_cases hfit
      rw [ev_s] at h
      rw [ofE]
      by_cases k1 : k = 1
      · rw [if_pos k1] at h ⊢
        injection h with h; subst h
        exact ⟨Nat.le_refl _, hp, fun _ => rfl, fun h => by omega⟩
      rw [if_neg k1] at h ⊢
      by_cases k2 : k = 2
      · rw [if_pos k2] at h ⊢
        injection h with h; subst h
        split
        · rename_i hh
          refine ⟨by omega, by omega, fun h => by omega, fun _ => ?_⟩
          simp only [Bool.not_eq_true']
          cases hz : (a == 0 && (b == 0 && (c == 0 && d == 0)))
          · rfl
          · simp only [Bool.and_eq_true, beq_iff_eq] at hz
            obtain ⟨rfl, rfl, rfl, rfl⟩ := hz
            have := hh.2
            unfold hasE hasN at this
            have hz : ([(0 : Int).toNat, (0 : Int).toNat, (0 : Int).toNat, (0 : Int).toNat] : List Nat).getD (bt s p / 64) 0 = 0 := by
              match bt s p / 64 with
              | 0 => rfl
              | 1 => rfl
              | 2 => rfl
              | 3 => rfl
              | n + 4 => rfl
            rw [hz] at this
            simp at this
        · rfl
      rw [if_neg k2] at h ⊢
      by_cases k3 : k = 3
      · rw [if_pos k3] at h ⊢
        injection h with h; subst h
        split
        · rename_i hh
          have hl := litAt_le hh hp
          have hts : t.data.toList.length = t.size := by simp
          have htne : t.data.toList ≠ [] := by
            rcases hfc with h | h | h | h | h | h | h
            all_goals first | (exact h.2.2.1) | (exfalso; omega)
          have hpos := List.length_pos_iff.2 htne
          exact ⟨by omega, by omega, fun h => by omega, fun _ => rfl⟩
        · rfl
      rw [if_neg k3] at h ⊢
      by_cases k4 : k = 4
      · rw [if_pos k4] at h ⊢
        obtain ⟨r, hr, _⟩ := fnd_at (hname k4)
        rw [hr] at h
        have := h1 _ _ _ (H.right r (List.mem_of_getElem? hr)) hp h
        rw [List.getD_eq_getElem?_getD, H.fix _ _ hr, Option.getD_some]
        exact this
      rw [if_neg k4] at h ⊢
      by_cases k5 : k = 5
      · rw [if_pos k5] at h ⊢
        cases ks with
        | nil => exfalso; simp at hfc; omega
        | cons e0 es =>
          cases n with
          | zero => cases h
          | succ n =>
            rw [ofEs, seqF]
            rw [evS_cons] at h
            have hR0 := hkids e0 (by simp)
            cases he : ev g s n e0 p with
            | none => rw [he] at h; cases h
            | some u =>
              rw [he] at h
              have ht := h1 _ _ _ hR0 hp ((ev_mono g s n).1 _ _ _ he)
              cases u with
              | none =>
                simp only at h
                injection h with h; subst h
                have : ∀ (l : List Fa) (x : Fa), x.f = true → (l.foldl thenF x).f = true := by
                  intro l
                  induction l with
                  | nil => intro x hx; exact hx
                  | cons y l ih => intro x hx; exact ih _ (by simp [thenF, hx])
                exact this _ _ ht
              | some to =>
                exact h3 es to o _ p (fun e he => hkids e (by simp [he])) ht.1 ht.2.1 ht ((ev_mono g s n).2.2.1 _ _ _ h)
      rw [if_neg k5] at h ⊢
      by_cases k6 : k = 6
      · rw [if_pos k6] at h ⊢
        exact h4 ks p o hkids (fun h => by subst h; simp at hfc; omega) hp h
      rw [if_neg k6] at h ⊢
      have h7 : 7 ≤ k ∧ k ≤ 11 ∧ ks.length = 1 := by omega
      match ks, h7.2.2 with
      | [e0], _ =>
        have := h2 k e0 p o ⟨a, b, c, d, t, hR0⟩ h7.1 h7.2.1 (hkids e0 (by simp)) hp h
        simp only [ofEs, kid0]
        exact this
    · rintro k e p o _ hk7 hk11 hR hp h
      rw [evK_s] at h
      by_cases k7 : k = 7
      · rw [if_pos k7] at h ⊢
        exact h5 e p p o hR (Nat.le_refl _) hp (fun h => by omega) h
      rw [if_neg k7] at h ⊢
      cases he : ev g s n e p with
      | none => rw [he] at h; cases h
      | some u =>
        rw [he] at h
        have ht := h1 _ _ _ hR hp he
        cases u with
        | none =>
          have hf : (ofE g fs e).f = true := ht
          simp only at h
          injection h with h; subst h
          by_cases k8 : k = 8
          · rw [if_pos k8, if_pos (.inl k8)]
            exact told_fail ht
          rw [if_neg k8]
          by_cases k9 : k = 9
          · rw [if_pos k9, if_neg (by omega)]
            exact ⟨Nat.le_refl _, hp, fun _ => by simp [orF, hf], fun h => by omega⟩
          rw [if_neg k9]
          by_cases k10 : k = 10
          · rw [if_pos k10, if_pos (.inr k10)]
            exact hf
          rw [if_neg k10, if_neg (by omega)]
          exact ⟨Nat.le_refl _, hp, fun _ => hf, fun h => by omega⟩
        | some to =>
          simp only at h
          have hsome : ((ofE g fs e).e || (ofE g fs e).a) = true := by
            rw [Bool.or_eq_true]
            by_cases hpt : to = p
            · exact .inl (ht.2.2.1 hpt)
            · exact .inr (ht.2.2.2 (by have := ht.1; omega))
          by_cases k8 : k = 8
          · rw [if_pos k8] at h ⊢
            exact told_seq ht (h5 e to to o hR (Nat.le_refl _) ht.2.1 (fun h => by omega) h)
          rw [if_neg k8] at h ⊢
          by_cases k9 : k = 9
          · rw [if_pos k9] at h ⊢
            injection h with h; subst h
            obtain ⟨a1, a2, a3, a4⟩ := ht
            exact ⟨a1, a2, fun h => by simp [orF, a3 h], fun h => by simp [orF, a4 h]⟩
          rw [if_neg k9] at h ⊢
          by_cases k10 : k = 10
          · rw [if_pos k10] at h ⊢
            injection h with h; subst h
            exact ⟨Nat.le_refl _, hp, fun _ => hsome, fun h => by omega⟩
          rw [if_neg k10] at h ⊢
          injection h with h; subst h
          exact hsome
    · intro es p o x q hes hqp hp hx h
      cases es with
      | nil =>
        rw [evS_nil] at h
        injection h with h; subst h
        rw [ofEs, List.foldl_nil]
        exact hx
      | cons e es =>
        rw [evS_cons] at h
        rw [ofEs, List.foldl_cons]
        cases he : ev g s n e p with
        | none => rw [he] at h; cases h
        | some u =>
          rw [he] at h
          have ht := h1 _ _ _ (hes e (by simp)) hp he
          cases u with
          | none =>
            simp only at h
            injection h with h; subst h
            have hz := told_seq hx ht
            have : ∀ (l : List Fa) (x : Fa), x.f = true → (l.foldl thenF x).f = true := by
              intro l
              induction l with
              | nil => intro x hx; exact hx
              | cons y l ih => intro x hx; exact ih _ (by simp [thenF, hx])
            exact this _ _ hz
          | some to =>
            exact h3 es to o _ q (fun e he => hes e (by simp [he])) (by have := ht.1; omega) ht.2.1 (told_seq hx ht) h
    · intro es p o hes hne hp h
      cases es with
      | nil => exact absurd rfl hne
      | cons e es =>
        rw [evA_cons] at h
        rw [ofEs]
        cases he : ev g s n e p with
        | none => rw [he] at h; cases h
        | some u =>
          rw [he] at h
          have ht := h1 _ _ _ (hes e (by simp)) hp he
          cases u with
          | none =>
            simp only at h
            have hf : (ofE g fs e).f = true := ht
            cases es with
            | nil =>
              cases n with
              | zero => cases h
              | succ n =>
                rw [evA_nil] at h
                injection h with h; subst h
                rw [ofEs, altF]
                exact ht
            | cons e2 es =>
              have := h4 (e2 :: es) p o (fun e he => hes e (by simp [he])) (by simp) hp h
              rw [ofEs] at this ⊢
              rw [altF]
              cases o with
              | none =>
                have : (altF (ofE g fs e2 :: ofEs g fs es)).f = true := this
                show (orF _ _).f = true
                simp [orF, hf, this]
              | some to =>
                obtain ⟨b1, b2, b3, b4⟩ := this
                exact ⟨b1, b2, fun h => by simp [orF, hf, b3 h], fun h => by simp [orF, hf, b4 h]⟩
          | some to =>
            simp only at h
            injection h with h; subst h
            obtain ⟨b1, b2, b3, b4⟩ := ht
            cases es with
            | nil =>
              rw [ofEs, altF]
              exact ⟨b1, b2, b3, b4⟩
            | cons e2 es =>
              rw [ofEs, altF]
              exact ⟨b1, b2, fun h => by simp [orF, b3 h], fun h => by simp [orF, b4 h]⟩
    · intro e p q o hR hqp hp hqa h
      rw [evR_s] at h
      cases he : ev g s n e p with
      | none => rw [he] at h; cases h
      | some u =>
        rw [he] at h
        have ht := h1 _ _ _ hR hp he
        cases u with
        | none =>
          simp only at h
          injection h with h; subst h
          have hf : (ofE g fs e).f = true := ht
          exact ⟨hqp, hp, fun _ => hf, fun h => hqa h⟩
        | some to =>
          refine h5 e to q o hR (by have := ht.1; omega) ht.2.1 (fun h => ?_) h
          by_cases hpt : to = p
          · exact hqa (by omega)
          · exact ht.2.2.2 (by have := ht.1; omega)
end
end Go.Proofs.Ytndhbdbfjkmloaa
