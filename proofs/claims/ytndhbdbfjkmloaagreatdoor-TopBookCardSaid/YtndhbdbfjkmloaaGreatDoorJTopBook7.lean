/- well.grow of bools; well.Well, well.Facts, mean.Look. well.Facts, mean.Look. What pack.count answers. The map that remembers outcomes: keys of two numbers. A parser in memory. -/
import Derived.Test.YtndhbdbfjkmloaaGreatDoorJTopBook4
import Derived.Test.YtndhbdbfjkmloaaGreatDoorJTopBook5
import Derived.Test.YtndhbdbfjkmloaaGreatDoorJTopBook6
import Derived.Maps.OwnSet
import Derived.DeepKeys4
namespace Go.Proofs.YtndhbdbfjkmloaaGreatDoor
open Go.RowKit

set_option maxRecDepth 100000 in
set_option maxHeartbeats 4000000 in
theorem wel1_any {g : List Rl} {A FA : Option Addr} {cp fcp : Nat} {row : Nat → List Value} {fs : List Fa} {kn : List Bool} {KA : Option Addr} {kcp gb fb i : Nat} {W : World} (hlen : fs.length = g.length) (hkn : kn.length = g.length) (hG : GrIs W W.heap.size g A cp row) (hF : Reads W W.heap.size 3 FA fs.length (facs fs))
    (hN : Reads W W.heap.size 1 KA kn.length (bools kn)) (hgb : Blk W gb 24 #[.slice A g.length cp]) (hfb : Blk W fb 88 #[.slice FA fs.length fcp]) (hR : ∀ r ∈ g, Rt g r.2) (hi : i < g.length) :
    Calls Tryz.prog 38 #[.slice KA kn.length kcp, .int .i64 i, .pointer (some ⟨gb, 0, none⟩), .pointer (some ⟨fb, 0, none⟩)] W (SoQ (nxB g fs kn i) W) := by
  have hm := hG.cap
  have hle := hG.le
  unfold maxLen at hm
  obtain ⟨ad, nm, k', a', b', c', d', t', ks', A', cp', rfl, hab, hej, hnm, hE, hS⟩ := hG.rule hi
  have hx : nxB g fs kn i = soundE g fs kn (.mk k' a' b' c' d' t' ks') := by unfold nxB; rw [hej]
  have hcall := fun (W' : World) (h : Below W.heap.size W W') => sound_any (fcp := fcp) (kcp := kcp) hlen hkn _ _ W' ((hG.on h).more h.size) ((hF.below h).more h.size) ((hN.below h).more h.size) ((hE.on h).keep h.size fun _ _ => rfl) (hR _ (List.mem_of_getElem? hej))
  unfold exCells at hcall
  rw [hx]
  generalize soundE g fs kn (.mk k' a' b' c' d' t' ks') = x at hcall
  have HC := Lib.hid hcall
  have gl := hgb.lt
  have fl := hfb.lt
  have hcc : ∀ W', Below W.heap.size W W' →
      W'.cell? ⟨gb, 0, none⟩ = some (.slice (some ad) g.length cp) ∧ W'.cell? ⟨fb, 0, none⟩ = some (.slice FA fs.length fcp) ∧ Eight W' (ad.add (i * 8)) nm k' a' b' c' d' t' A' ks'.length cp' := fun W' hW' =>
    have hk := fun (q : Addr) (hq : q.block = (ad.add (i * 8)).block) => hW'.cell (p := q) (by rw [hq, add_block]; omega)
    ⟨(hgb.below hW' gl).cell 0, (hfb.below hW' fl).cell 0, (hk _ rfl).trans hS.c0, (hk ⟨_, _, none⟩ rfl).trans hS.c1, (hk ⟨_, _, none⟩ rfl).trans hS.c2, (hk ⟨_, _, none⟩ rfl).trans hS.c3, (hk ⟨_, _, none⟩ rfl).trans hS.c4, (hk ⟨_, _, none⟩ rfl).trans hS.c5, (hk ⟨_, _, none⟩ rfl).trans hS.c6, (hk ⟨_, _, none⟩ rfl).trans hS.c7⟩
  have HCC := Lib.hid hcc
  have HLEN := Lib.hid hlen
  have HKN := Lib.hid hkn
  clear hcc hS hgb hfb hcall hE hej hx hF hG hR hlen hkn hN hnm
  go_enter Tryz.func38, Tryz.ntmps38
  go_wp2_with fail
  refine wp_region_q (Below W.heap.size W) (by kernel_rfl) (by kernel_rfl) (Below.drew (Below.refl _ _)) ?_
  repeat
    (first | ((with_reducible apply QW.free rfl); · (intro W hW; obtain ⟨q1, q2, ⟨s0, s1, s2, s3, s4, s5, s6, s7⟩⟩ := HCC.out W hW; go_simp; first | rfl | (go_at_call 39; refine (HC.out _ hW).mono ?_; exact fun e w' h => ⟨h.1, hW.trans (h.2.mono hW.size)⟩))) | ((with_reducible apply QW.skip rfl); · (first | exact ⟨_, _, rfl, rfl, .inl rfl⟩ | exact ⟨_, _, rfl, rfl, .inr rfl⟩)) | ((with_reducible apply QW.take rfl); (· exact ⟨_, rfl, rfl⟩); (· (intro W hW; obtain ⟨q1, q2, ⟨s0, s1, s2, s3, s4, s5, s6, s7⟩⟩ := HCC.out W hW; go_simp; first | rfl | (go_at_call 39; refine (HC.out _ hW).mono ?_; exact fun e w' h => ⟨h.1, hW.trans (h.2.mono hW.size)⟩))))); (try simp only [Act.put, List.setIfInBounds_toArray, List.set_cons_zero, List.set_cons_succ])
  refine QW.nil ?_
  intro w1 hw1
  go_wp2
  go_ret
  exact ⟨rfl, hw1⟩

/-- bools in a block of their own -/
def BoB (w : World) (b : Nat) (kn : List Bool) : Prop := Blk w b 4 (bools kn).toArray
theorem BoB.reads {w : World} {b B : Nat} {kn : List Bool} (h : BoB w b kn) (hb : b < B) : Reads w B 1 (some ⟨b, 0, none⟩) kn.length (bools kn) :=
  ⟨by simp [bools], fun _ => ⟨_, rfl, hb, World.news_of_block h⟩⟩
theorem BoB.cell {w : World} {b i : Nat} {kn : List Bool} {x : Bool} (h : BoB w b kn) (hx : kn[i]? = some x) : w.cell? ⟨b, i, none⟩ = some (.bool x) := by
  refine (Blk.cell h i).trans ?_
  rw [List.getElem?_toArray, bools, List.getElem?_map, hx]
  rfl
theorem BoB.put {w : World} {b : Nat} {kn : List Bool} (h : BoB w b kn) (i : Nat) (x : Bool) : BoB (w.setCell ⟨b, i, none⟩ (.bool x)) b (kn.set i x) := by
  have h1 := Blk.set_ h i (.bool x)
  unfold BoB
  have e : ((bools kn).toArray.setIfInBounds i (.bool x)) = (bools (kn.set i x)).toArray := by simp [bools, List.map_set]
  rw [← e]
  exact h1
theorem info_bool : (Tryz.prog.info? 4).map (fun i => (i.zero, i.size, i.bytes)) = some (some (.bool false), 1, 1) := by kernel_rfl
theorem made_bools (n : Nat) : madeCells (Value.bool false).cells (n * 1) = (bools (List.replicate n false)).toArray := by
  apply Array.ext
  · simp [size_madeCells, bools]
  · intro i h1 h2
    simp [madeCells, Value.cells, bools, Nat.mod_one]

theorem sound_mono {g : List Rl} {fs : List Fa} {l m : List Bool} (h : LeL boOrd l m) (e : Ex) : soundE g fs l e = true → soundE g fs m e = true := by
  refine Ex.ind (P := fun e => soundE g fs l e = true → soundE g fs m e = true) ?_ e
  intro k a b c d t ks ih hs
  rw [soundE] at hs ⊢
  by_cases k4 : k = 4
  · rw [if_pos k4] at hs ⊢
    have hl := h.1
    rw [List.getD_eq_getElem?_getD] at hs ⊢
    cases hx : l[(fnd g t.data.toList).toNat]? with
    | none => rw [hx] at hs; cases hs
    | some x =>
      rw [hx] at hs
      have hlt := getElem?_lt hx
      have hy : m[(fnd g t.data.toList).toNat]? = some (m[(fnd g t.data.toList).toNat]'(by omega)) := List.getElem?_eq_getElem (by omega)
      rw [hy]
      exact h.2 _ _ _ hx hy hs
  rw [if_neg k4] at hs ⊢
  by_cases k5 : k = 5
  · rw [if_pos k5] at hs ⊢
    have : ∀ es : List Ex, (∀ e ∈ es, e ∈ ks) → soundS g fs l es = true → soundS g fs m es = true := by
      intro es
      induction es with
      | nil => intro _ h; exact h
      | cons e es ihe =>
        intro hm hse
        rw [soundS] at hse ⊢
        split at hse
        · cases hse
        rename_i h1
        rw [if_neg (by rw [ih e (hm e (by simp)) (by simpa using h1)]; decide)]
        split
        · rfl
        · rename_i h2
          rw [if_neg h2] at hse
          exact ihe (fun e he => hm e (by simp [he])) hse
    exact this ks (fun e he => he) hs
  rw [if_neg k5] at hs ⊢
  have : ∀ es : List Ex, (∀ e ∈ es, e ∈ ks) → soundA g fs l es = true → soundA g fs m es = true := by
    intro es
    induction es with
    | nil => intro _ h; exact h
    | cons e es ihe =>
      intro hm hse
      rw [soundA] at hse ⊢
      split at hse
      · cases hse
      rename_i h1
      rw [if_neg (by rw [ih e (hm e (by simp)) (by simpa using h1)]; decide)]
      exact ihe (fun e he => hm e (by simp [he])) hse
  exact this ks (fun e he => he) hs
theorem nxB_mono (g : List Rl) (fs : List Fa) (n : Nat) : Mono boOrd (nxB g fs) n := by
  intro l m _ h i
  unfold nxB
  split
  · exact sound_mono h _
  · exact boOrd.refl _
theorem low_zeroB (g : List Rl) (fs : List Fa) : Low boOrd (nxB g fs) (List.replicate g.length false) := by
  intro i x hx
  rw [List.getElem?_replicate] at hx
  split at hx
  · injection hx with hx
    subst hx
    exact fun h => by cases h
  · cases hx

set_option maxRecDepth 100000 in
set_option maxHeartbeats 4000000 in
theorem growB_any {g : List Rl} {A FA : Option Addr} {cp fcp : Nat} {row : Nat → List Value} {fs : List Fa} {w : World} {gb fb : Nat} (hlen : fs.length = g.length) (h : GrIs w w.heap.size g A cp row) (hF : Reads w w.heap.size 3 FA fs.length (facs fs)) (hgb : Blk w gb 24 #[.slice A g.length cp]) (hfb : Blk w fb 88 #[.slice FA fs.length fcp]) (hR : ∀ r ∈ g, Rt g r.2) (h10 : g.length ≤ 10) :
    Calls Tryz.prog 37 #[.int .i64 g.length, .func (.func 38) #[] #[.pointer (some ⟨gb, 0, none⟩), .pointer (some ⟨fb, 0, none⟩)]] w fun e w' => e = .returned (.slice (some ⟨w.heap.size, 0, none⟩) g.length g.length) ∧ BoB w' w.heap.size (knownG g fs) ∧ Below w.heap.size w w' := by
  obtain ⟨i0, hi, hz0, hz1, hz2⟩ := info_parts info_bool
  have hmk := made_run Tryz.underlying40 hi hz0 .i64 .i64 (n := g.length) (c := g.length) (Nat.le_refl _) (by rw [hz2]; omega) (by omega)
  rw [hz1, made_bools] at hmk
  have hgl := hgb.lt
  have hfl := hfb.lt
  have hnx : ∀ (W : World) (kn : List Bool) (i : Nat), kn.length = g.length → Below w.heap.size w W → BoB W w.heap.size kn → i < g.length →
      Calls Tryz.prog 38 #[.slice (some ⟨w.heap.size, 0, none⟩) g.length g.length, .int .i64 i, .pointer (some ⟨gb, 0, none⟩), .pointer (some ⟨fb, 0, none⟩)] W (SoQ (nxB g fs kn i) W) := by
    intro W kn i hkl hW hb hi
    have := wel1_any (kcp := g.length) hlen hkl ((h.on hW).more hW.size) ((hF.below hW).more hW.size) (hb.reads (B := W.heap.size) (Blk.lt hb)) (hgb.below hW hgl) (hfb.below hW hfl) hR hi
    rw [hkl] at this
    exact this
  have HNX := Lib.hid hnx
  have hn0 : (List.replicate g.length false).length = g.length := by simp
  have hlow := low_zeroB g fs
  have HRES : Hid (knownG g fs = growG (nxB g fs) (wtL boOrd (List.replicate g.length false) + 1) (List.replicate g.length false)) := by exact rfl
  generalize (List.replicate g.length false) = k0 at hmk hn0 hlow HRES
  have HN0 := Lib.hid hn0
  have HLOW := Lib.hid hlow
  generalize knownG g fs = res at HRES ⊢
  clear h hgb hfb hR hnx hn0 hlow hz0 hz1 hz2 hi hF hlen
  go_enter Tryz.func37, Tryz.ntmps37
  go_wp2
  go_loopg [6] (wtL boOrd k0 + 1) (fun n s6 wr => ∃ (kn : List Bool) (m : Bool), s6 = .bool m ∧ Hid (kn.length = g.length) ∧ Hid (Low boOrd (nxB g fs) kn) ∧ Hid (m = true → wtL boOrd kn < n ∧ growG (nxB g fs) n kn = res) ∧ Hid (m = false → kn = res) ∧ BoB wr w.heap.size kn ∧ Below w.heap.size w wr)
  case atStart => exact ⟨k0, true, rfl, HN0, HLOW, fun _ => ⟨by omega, HRES.out.symm⟩, (fun h => by cases h), blk_at rfl, (by repeat (first | exact Below.refl _ _ | assumption | refine Below.drew ?_ | refine below_drewN ?_ _ | refine Below.alloc ?_ (by first | omega | (simp; omega) | simp) _ | refine Below.setCell ?_ (by first | omega | (simp; omega) | simp) _))⟩
  case round =>
    obtain ⟨kn, m, rfl, HL, HLO, HT, HFa, hfb, hwr⟩ := hrel
    cases m
    · obtain rfl : kn = res := HFa.out rfl
      go_wp2
      go_ret
      exact ⟨rfl, hfb, hwr⟩
    · obtain ⟨hlt, hgr⟩ := HT.out rfl
      obtain ⟨f, rfl⟩ : ∃ f, gk = f + 1 := ⟨gk - 1, by omega⟩
      have hr0 : Hid (roundG (nxB g fs) (g.length - 0) 0 kn false = roundG (nxB g fs) kn.length 0 kn false) := by show _ = _; rw [HL.out, Nat.sub_zero]
      have HGR : Hid ((if (roundG (nxB g fs) kn.length 0 kn false).2 = true then growG (nxB g fs) f (roundG (nxB g fs) kn.length 0 kn false).1 else (roundG (nxB g fs) kn.length 0 kn false).1) = res) := by
        show _ = _
        rw [← hgr, growG]
      have hk := round_keeps (nx := nxB g fs) (P := fun l => l.length = g.length ∧ Low boOrd (nxB g fs) l) (fun l i h hi hne => ⟨by simp; exact h.1, (low_step (by rw [h.1]; exact nxB_mono g fs _) h.2 hi hne).1⟩) kn.length 0 kn false (by omega) ⟨HL.out, HLO.out⟩
      have hw := round_wt (nxB_mono g fs g.length) kn.length 0 kn false HL.out (by rw [HL.out]; omega) HLO.out
      generalize roundG (nxB g fs) kn.length 0 kn false = r at hr0 HGR hk hw
      have HK := Lib.hid hk
      have HW := Lib.hid hw
      have HLT := Lib.hid hlt
      clear HT HFa hgr hk hw hlt HLO
      go_wp2
      go_loopw [6, 14] (fun s6 i wr => ∃ (j : Nat) (kn' : List Bool) (m' : Bool), j ≤ g.length ∧ i = .int .i64 j ∧ s6 = .bool m' ∧ Hid (roundG (nxB g fs) (g.length - j) j kn' m' = r) ∧ Hid (kn'.length = g.length) ∧ BoB wr w.heap.size kn' ∧ Below w.heap.size w wr) (fun _ i _ => g.length - (intOf i).toNat)
      case atStart => exact ⟨0, kn, false, by omega, rfl, rfl, hr0, HL, hfb, hwr⟩
      case round =>
        clear hfb hwr hr0 HL
        obtain ⟨j, kn', m', hj, rfl, rfl, HR, HL, hfb, hwr⟩ := hrel
        by_cases hjn : j < g.length
        · have hcall := HNX.out wr kn' j HL.out hwr hfb hjn
          have hy : kn'[j]? = some (kn'[j]'(by rw [HL.out]; exact hjn)) := List.getElem?_eq_getElem _
          generalize kn'[j]'(by rw [HL.out]; exact hjn) = y at hy
          have HRS : Hid (roundG (nxB g fs) (g.length - j) j kn' m' = if nxB g fs kn' j = y then roundG (nxB g fs) (g.length - (j + 1)) (j + 1) kn' m' else roundG (nxB g fs) (g.length - (j + 1)) (j + 1) (kn'.set j (nxB g fs kn' j)) true) := by
            show _ = _
            rw [show g.length - j = (g.length - (j + 1)) + 1 by omega, roundG, hy]
            by_cases h : nxB g fs kn' j = y
            · rw [if_pos h, if_pos (by rw [h])]
            · rw [if_neg h, if_neg (fun e => h (by injection e with e; exact e.symm))]
          generalize nxB g fs kn' j = x at hcall HRS
          have HY := Lib.hid hy
          have HC := Lib.hid hcall
          have hadr := addr0 w.heap.size j
          have hbl := Blk.lt hfb
          clear hy hcall
          go_wp2_with fail
          refine HC.out.mono ?_
          rintro e w1 ⟨rfl, hb1⟩
          have hf1 : BoB w1 w.heap.size kn' := Blk.below hfb hb1 hbl
          have hw1 : Below w.heap.size wr w1 := Below.trans (by repeat (first | exact Below.refl _ _ | assumption | refine Below.drew ?_ | refine below_drewN ?_ _ | refine Below.alloc ?_ (by first | omega | (simp; omega) | simp) _ | refine Below.setCell ?_ (by first | omega | (simp; omega) | simp) _)) (hb1.mono (by first | omega | (simp; omega) | simp)); have hzw1 := hw1.size
          have hww : Below w.heap.size w w1 := hwr.trans hw1
          have hc0 := hf1.cell HY.out
          have hfz := Blk.frozen hf1 j
          clear hb1
          by_cases hxy : x = y
          · have HN : Hid (roundG (nxB g fs) (g.length - (j + 1)) (j + 1) kn' m' = r) := by
              show _ = _
              rw [← HR.out, HRS.out, if_pos hxy]
            subst hxy
            clear HRS HC
            cases x
            all_goals
              go_wp2
              go_roundw
              case rel => exact ⟨j + 1, kn', m', by omega, by go_num, rfl, HN, HL, hf1, hww⟩
              case measure => simp [intOf]; omega
          · have HN : Hid (roundG (nxB g fs) (g.length - (j + 1)) (j + 1) (kn'.set j x) true = r) := by
              show _ = _
              rw [← HR.out, HRS.out, if_neg hxy]
            have hf4 := hf1.put j x
            have hw4 : Below w.heap.size w (w1.setCell ⟨w.heap.size, j, none⟩ (.bool x)) := hww.setCell (Nat.le_refl _) _
            have HLL : Hid ((kn'.set j x).length = g.length) := by show _ = _; rw [List.length_set]; exact HL.out
            clear HRS HC
            cases x <;> cases y <;> first | exact absurd rfl hxy | skip
            all_goals
              clear hxy
              go_wp2
              go_roundw
              case rel => exact ⟨j + 1, _, true, by omega, by go_num, rfl, HN, HLL, hf4, hw4⟩
              case measure => simp [intOf]; omega
        · obtain rfl : j = g.length := by omega
          obtain rfl : r = (kn', m') := by rw [← HR.out, Nat.sub_self, roundG]
          have hlow := HK.out.1.2
          have hwt := HW.out
          have hlt := HLT.out
          have HLO : Hid (Low boOrd (nxB g fs) kn') := hlow
          have HT : Hid (m' = true → wtL boOrd kn' < f ∧ growG (nxB g fs) f kn' = res) := by
            intro hm
            refine ⟨?_, ?_⟩
            · rcases hwt.2 hm with h | h
              · cases h
              · have : wtL boOrd kn' < wtL boOrd kn := h
                omega
            · have := HGR.out
              rw [if_pos hm] at this
              exact this
          have HFa : Hid (m' = false → kn' = res) := by
            intro hm
            have := HGR.out
            rw [if_neg (by simp [hm])] at this
            exact this
          clear hlow hwt hlt HR
          go_wp2
          go_roundg f
          case rel => exact ⟨kn', m', rfl, HL, HLO, HT, HFa, hfb, hwr⟩
          case measure => omega

/-- the boxes of well.Well -/
structure WellB (A : Option Addr) (cp : Nat) (g : List Rl) (fs : List Fa) (fb xb : Nat) (w W : World) : Prop where
  bel : Below w.heap.size w W
  gb : Blk W w.heap.size 24 #[.slice A g.length cp]
  xb : Blk W xb 88 #[.slice (some ⟨fb, 0, none⟩) g.length g.length]
  fac : FacB W fb fs
theorem WellB.step {A : Option Addr} {cp : Nat} {g : List Rl} {fs : List Fa} {fb xb : Nat} {w W W' : World} (h : WellB A cp g fs fb xb w W) {B : Nat} (hb : Below B W W') (hB : W.heap.size ≤ B) : WellB A cp g fs fb xb w W' :=
  have hb' := hb.mono hB
  ⟨h.bel.trans (hb'.mono h.bel.size), h.gb.below hb' h.gb.lt, h.xb.below hb' h.xb.lt, Blk.below h.fac hb' (Blk.lt h.fac)⟩
theorem WellB.alloc {A : Option Addr} {cp : Nat} {g : List Rl} {fs : List Fa} {fb xb : Nat} {w W : World} (h : WellB A cp g fs fb xb w W) (o : Obj) : WellB A cp g fs fb xb w (W.alloc o) := h.step ((Below.refl _ _).alloc (Nat.le_refl _) o) (Nat.le_refl _)

/-- what well.Well leaves -/
def WellQ (g : List Rl) (w : World) (e : Ending) (w' : World) : Prop := e = .returned (.tuple #[.int .i64 (wellG g).1, .int .i64 (wellG g).2]) ∧ Below w.heap.size w w'

set_option maxRecDepth 100000 in
set_option maxHeartbeats 4000000 in
theorem well_any {g : List Rl} {A : Option Addr} {cp : Nat} {row : Nat → List Value} {w : World} (h : GrIs w w.heap.size g A cp row) : Calls Tryz.prog 21 #[.agg #[.slice A g.length cp]] w (WellQ g w) := by
  have hck := fun W (hW : Below w.heap.size w W) => gcheck_any ((h.on hW).more hW.size)
  have HCK := Lib.hid hck
  have HG := Lib.hid h
  have hbg : Blk (w.alloc (.cells #[.slice A g.length cp] 24)) w.heap.size 24 #[.slice A g.length cp] := blk_at rfl
  clear hck h
  by_cases h0 : checkG g = 0
  · have R := right_of h0
    have h10 := R.ten
    have hm8 : g.length ≤ 9223372036854775807 := by omega
    have HR := Lib.hid R.rt
    have HW0 : Hid (wellG g = match badLoop g (factsG g) g 0 with
      | some i => (i, 9)
      | none => match badLeft (knownG g (factsG g)) 0 with
        | some i => (i, 8)
        | none => (0, 0)) := if_neg (by simp [h0])
    rw [h0] at HCK
    have HFL := Lib.hid (facts_len g)
    clear h0 R
    go_enter Tryz.func21, Tryz.ntmps21
    go_wp2_with fail
    refine (HCK.out _ (by repeat (first | exact Below.refl _ _ | assumption | refine Below.drew ?_ | refine below_drewN ?_ _ | refine Below.alloc ?_ (by first | omega | (simp; omega) | simp) _ | refine Below.setCell ?_ (by first | omega | (simp; omega) | simp) _))).mono ?_
    rintro e w1 ⟨rfl, hb1⟩
    have hbg1 := hbg.below hb1 hbg.lt
    have hw1 : Below w.heap.size w w1 := ((Below.refl _ w).alloc (Nat.le_refl _) _).trans (hb1.mono (by simp))
    have g1 : w1.cell? ⟨w.heap.size, 0, none⟩ = some (.slice A g.length cp) := hbg1.cell 0
    clear hb1 hbg
    go_wp2_with fail
    refine (facts_any ((HG.out.on hw1).more hw1.size) HR.out h10).mono ?_
    rintro e w2 ⟨fb, rfl, hfb, hfl, hb2⟩
    have hB : WellB A cp g (factsG g) fb w2.heap.size w (w2.alloc (.cells #[.slice (some ⟨fb, 0, none⟩) g.length g.length] 88)) :=
      ⟨(hw1.trans (hb2.mono hw1.size)).alloc (by have := hb2.size; have := hw1.size; omega) _, (hbg1.below hb2 hbg1.lt).alloc _, blk_at rfl, Blk.alloc hfb _⟩
    have q0 : (w2.alloc (.cells #[.slice (some ⟨fb, 0, none⟩) g.length g.length] 88)).cell? ⟨w.heap.size, 0, none⟩ = some (.slice A g.length cp) := hB.gb.cell 0
    have hxl : w.heap.size < w2.heap.size := by have := hB.gb.lt; have := hbg1.lt; have := hb2.size; omega
    have HL0 : Hid (badLoop g (factsG g) (g.drop 0) 0 = badLoop g (factsG g) g 0) := rfl
    generalize factsG g = fs at HW0 HFL hB HL0
    clear hfb hfl hb2 hbg1 hw1 g1
    go_wp2
    go_loopw [6, 7, 21] (fun _ _ i wr => ∃ j : Nat, j ≤ g.length ∧ i = .int .i64 j ∧ Hid (badLoop g fs (g.drop j) j = badLoop g fs g 0) ∧ WellB A cp g fs fb w2.heap.size w wr) (fun _ _ i _ => g.length - (intOf i).toNat)
    case atStart => exact ⟨0, by omega, rfl, HL0, hB⟩
    case round =>
      clear hB q0 HL0
      obtain ⟨j, hj, rfl, HJ, hwr⟩ := hrel
      have hbel := hwr.bel
      have hz := hbel.size
      have hgl := hwr.gb.lt
      have hxl2 := hwr.xb.lt
      have q0 : wr.cell? ⟨w.heap.size, 0, none⟩ = some (.slice A g.length cp) := hwr.gb.cell 0
      have q1 : wr.cell? ⟨w2.heap.size, 0, none⟩ = some (.slice (some ⟨fb, 0, none⟩) g.length g.length) := hwr.xb.cell 0
      by_cases hjk : j < g.length
      · obtain ⟨ad, nm, k', a', b', c', d', t', ks', A', cp', rfl, hab, hej, hnm, hE, ⟨e0, e1, e2, e3, e4, e5, e6, e7⟩⟩ := (HG.out.on hbel).rule hjk
        have hcall : ∀ W, WellB (some ad) cp g fs fb w2.heap.size w W → Below w.heap.size wr W → Calls Tryz.prog 36 #[.agg #[.slice (some ad) g.length cp], .slice (some ⟨fb, 0, none⟩) g.length g.length, .agg #[.int .i64 k', .int .u64 a', .int .u64 b', .int .u64 c', .int .u64 d', .string t', .slice A' ks'.length cp']] W
            fun e' w' => e' = .returned (.bool (loopsE g fs (.mk k' a' b' c' d' t' ks'))) ∧ Below W.heap.size W w' := by
          intro W hW hr
          have := loops_any (fcp := g.length) HFL.out (.mk k' a' b' c' d' t' ks') _ W ((HG.out.on hW.bel).more hW.bel.size) (hW.fac.reads (B := W.heap.size) (Blk.lt hW.fac)) ((hE.on hr).keep hW.bel.size fun _ _ => rfl) (HR.out _ (List.mem_of_getElem? hej))
          rw [HFL.out] at this
          exact this
        have HC := Lib.hid hcall
        have HD := Lib.hid (drop_of hej)
        have HS : Hid (badLoop g fs (g.drop j) j = if loopsE g fs (.mk k' a' b' c' d' t' ks') = true then some j else badLoop g fs (g.drop (j + 1)) (j + 1)) := by show _ = _; rw [HD.out, badLoop]
        generalize loopsE g fs (.mk k' a' b' c' d' t' ks') = z at HC HS
        have hwr2 := hwr.alloc (.cells #[.string nm, .int .i64 k', .int .u64 a', .int .u64 b', .int .u64 c', .int .u64 d', .string t', .slice A' ks'.length cp'] 68)
        have hrr : Below w.heap.size wr (wr.alloc (.cells #[.string nm, .int .i64 k', .int .u64 a', .int .u64 b', .int .u64 c', .int .u64 d', .string t', .slice A' ks'.length cp'] 68)) := (by repeat (first | exact Below.refl _ _ | assumption | refine Below.drew ?_ | refine below_drewN ?_ _ | refine Below.alloc ?_ (by first | omega | (simp; omega) | simp) _ | refine Below.setCell ?_ (by first | omega | (simp; omega) | simp) _))
        clear hcall hE hej hnm hwr
        go_wp2_with fail
        refine (HC.out _ hwr2 hrr).mono ?_
        rintro e w3 ⟨rfl, hb3⟩
        have hw3 := hwr2.step hb3 (Nat.le_refl _)
        have hbel3 := hw3.bel
        clear hb3 hwr2 hrr
        cases z
        · have HN : Hid (badLoop g fs (g.drop (j + 1)) (j + 1) = badLoop g fs g 0) := by show _ = _; rw [← HJ.out, HS.out, if_neg (by decide)]
          clear HS
          go_wp2
          go_roundw
          case rel => exact ⟨j + 1, by omega, by go_num, HN, hw3⟩
          case measure => simp [intOf]; omega
        · have HN : Hid (wellG g = ((j : Int), 9)) := by show _ = _; rw [HW0.out, ← HJ.out, HS.out, if_pos rfl]
          clear HS
          go_wp2
          go_ret2
          exact ⟨by rw [HN.out]; rfl, hbel3⟩
      · obtain rfl : j = g.length := by omega
        have HN : Hid (wellG g = match badLeft (knownG g fs) 0 with
          | some i => (i, 8)
          | none => (0, 0)) := by show _ = _; rw [HW0.out, ← HJ.out, List.drop_length, badLoop]
        have hgr := growB_any (fcp := g.length) HFL.out ((HG.out.on hbel).more hz) (FA := some ⟨fb, 0, none⟩) (hwr.fac.reads (B := wr.heap.size) (Blk.lt hwr.fac)) hwr.gb (by rw [HFL.out]; exact hwr.xb) HR.out h10
        have HGR := Lib.hid hgr
        clear hgr HW0 HJ
        go_wp2_with fail
        refine HGR.out.mono ?_
        rintro e w3 ⟨rfl, hbo, hb3⟩
        have hbel3 : Below w.heap.size w w3 := hbel.trans (hb3.mono hz)
        have HKL : Hid ((knownG g fs).length = g.length) := known_len
        have HAD := Lib.hid (fun i : Nat => addr0 wr.heap.size i)
        have HK0 : Hid (badLeft ((knownG g fs).drop 0) 0 = badLeft (knownG g fs) 0) := rfl
        generalize knownG g fs = kn at HN hbo HKL HK0
        clear hb3 hwr q0 q1
        go_wp2
        go_loopw [9, 10, 40] (fun _ _ i wq => ∃ j : Nat, j ≤ g.length ∧ i = .int .i64 j ∧ Hid (badLeft (kn.drop j) j = badLeft kn 0) ∧ w3 = wq) (fun _ _ i _ => g.length - (intOf i).toNat)
        case atStart => exact ⟨0, by omega, rfl, HK0, rfl⟩
        case round =>
          obtain ⟨j, hj, rfl, HJ, rfl⟩ := hrel
          by_cases hjk : j < g.length
          · have hy : kn[j]? = some (kn[j]'(by rw [HKL.out]; exact hjk)) := List.getElem?_eq_getElem _
            generalize kn[j]'(by rw [HKL.out]; exact hjk) = y at hy
            have hcy := hbo.cell hy
            have HS : Hid (badLeft (kn.drop j) j = if y = false then some j else badLeft (kn.drop (j + 1)) (j + 1)) := by show _ = _; rw [drop_of hy, badLeft]
            have hadr := HAD.out j
            clear hy
            cases y
            · have HNN : Hid (wellG g = ((j : Int), 8)) := by show _ = _; rw [HN.out, ← HJ.out, HS.out, if_pos rfl]
              clear HS
              go_wp2
              go_ret2
              exact ⟨by rw [HNN.out]; rfl, hbel3⟩
            · have HNN : Hid (badLeft (kn.drop (j + 1)) (j + 1) = badLeft kn 0) := by show _ = _; rw [← HJ.out, HS.out, if_neg (by decide)]
              clear HS
              go_wp2
              go_roundw
              case rel => exact ⟨j + 1, by omega, by go_num, HNN, trivial⟩
              case measure => simp [intOf]; omega
          · obtain rfl : j = g.length := by omega
            have HNN : Hid (wellG g = (0, 0)) := by show _ = _; rw [HN.out, ← HJ.out, List.drop_eq_nil_of_le (by rw [HKL.out]; exact Nat.le_refl _), badLeft]
            go_wp2
            go_ret2
            exact ⟨by rw [HNN.out]; rfl, hbel3⟩
  · have HW0 : Hid (wellG g = (0, checkG g)) := if_pos h0
    have hxb : (checkG g != 0) = true := by rw [bne_iff_ne]; exact h0
    generalize checkG g = x at hxb HCK HW0
    go_enter Tryz.func21, Tryz.ntmps21
    go_wp2_with fail
    refine (HCK.out _ (by repeat (first | exact Below.refl _ _ | assumption | refine Below.drew ?_ | refine below_drewN ?_ _ | refine Below.alloc ?_ (by first | omega | (simp; omega) | simp) _ | refine Below.setCell ?_ (by first | omega | (simp; omega) | simp) _))).mono ?_
    rintro e w1 ⟨rfl, hb1⟩
    have hw1 : Below w.heap.size w w1 := ((Below.refl _ w).alloc (Nat.le_refl _) _).trans (hb1.mono (by simp))
    clear hb1 hbg
    go_wp2
    go_ret2
    exact ⟨by rw [HW0.out]; rfl, hw1⟩
end Go.Proofs.YtndhbdbfjkmloaaGreatDoor
namespace Go.Proofs.YtndhbdbfjkmloaaGreatDoor
open Go.RowKit

/-- what mean.Look says -/
def lookG (g : List Rl) (s : ByteArray) : Int := if (wellG g).2 ≠ 0 then (wellG g).2 else if 60 < s.size then 2 else 0
set_option maxRecDepth 100000 in
theorem mlook_any {g : List Rl} {A : Option Addr} {cp : Nat} {row : Nat → List Value} {w : World} (h : GrIs w w.heap.size g A cp row) (s : ByteArray) :
    Calls Tryz.prog 24 #[.agg #[.slice A g.length cp], .string s] w fun e w' => e = .returned (.int .i64 (lookG g s)) ∧ Below w.heap.size w w' := by
  have hck := fun W (hW : Below w.heap.size w W) => well_any ((h.on hW).more hW.size)
  have HCK := Lib.hid hck
  have HL : Hid (lookG g s = if (wellG g).2 ≠ 0 then (wellG g).2 else if 60 < s.size then 2 else 0) := rfl
  clear hck h
  unfold WellQ at HCK
  generalize wellG g = r at HCK HL
  obtain ⟨i, x⟩ := r
  by_cases hx : x = 0
  · subst hx
    by_cases h60 : 60 < s.size
    · have HN : Hid (lookG g s = 2) := by show _ = _; rw [HL.out, if_neg (by simp), if_pos h60]
      go_enter Tryz.func24, Tryz.ntmps24
      go_wp2_with fail
      refine (HCK.out _ (by repeat (first | exact Below.refl _ _ | assumption | refine Below.drew ?_ | refine below_drewN ?_ _ | refine Below.alloc ?_ (by first | omega | (simp; omega) | simp) _ | refine Below.setCell ?_ (by first | omega | (simp; omega) | simp) _))).mono ?_
      rintro e w1 ⟨rfl, hb1⟩
      have hw1 : Below w.heap.size w w1 := ((Below.refl _ w).alloc (Nat.le_refl _) _).trans (hb1.mono (by simp))
      clear hb1
      go_wp2
      go_ret
      exact ⟨ret_int HN.out.symm, hw1⟩
    · have HN : Hid (lookG g s = 0) := by show _ = _; rw [HL.out, if_neg (by simp), if_neg h60]
      go_enter Tryz.func24, Tryz.ntmps24
      go_wp2_with fail
      refine (HCK.out _ (by repeat (first | exact Below.refl _ _ | assumption | refine Below.drew ?_ | refine below_drewN ?_ _ | refine Below.alloc ?_ (by first | omega | (simp; omega) | simp) _ | refine Below.setCell ?_ (by first | omega | (simp; omega) | simp) _))).mono ?_
      rintro e w1 ⟨rfl, hb1⟩
      have hw1 : Below w.heap.size w w1 := ((Below.refl _ w).alloc (Nat.le_refl _) _).trans (hb1.mono (by simp))
      clear hb1
      go_wp2
      go_ret
      exact ⟨ret_int HN.out.symm, hw1⟩
  · have hxb : (x != 0) = true := by rw [bne_iff_ne]; exact hx
    have HN : Hid (lookG g s = x) := by show _ = _; rw [HL.out, if_pos hx]
    clear hx
    go_enter Tryz.func24, Tryz.ntmps24
    go_wp2_with fail
    refine (HCK.out _ (by repeat (first | exact Below.refl _ _ | assumption | refine Below.drew ?_ | refine below_drewN ?_ _ | refine Below.alloc ?_ (by first | omega | (simp; omega) | simp) _ | refine Below.setCell ?_ (by first | omega | (simp; omega) | simp) _))).mono ?_
    rintro e w1 ⟨rfl, hb1⟩
    have hw1 : Below w.heap.size w w1 := ((Below.refl _ w).alloc (Nat.le_refl _) _).trans (hb1.mono (by simp))
    clear hb1
    go_wp2
    go_ret
    exact ⟨ret_int HN.out.symm, hw1⟩
end Go.Proofs.YtndhbdbfjkmloaaGreatDoor
namespace Go.Proofs.YtndhbdbfjkmloaaGreatDoor
open Go.RowKit

theorem nodesAll_mem : ∀ {ks : List Ex} {e : Ex}, e ∈ ks → nodes e ≤ nodesAll ks
  | _ :: _, _, h => by
    rw [nodesAll]
    rcases List.mem_cons.1 h with rfl | h
    · omega
    · have := nodesAll_mem h; omega

set_option maxRecDepth 100000 in
set_option maxHeartbeats 8000000 in
theorem countK_any (e : Ex) : ∀ (cs : List Value) (w : World), ExIs w w.heap.size e cs → nodes e ≤ 1000000000000 →
    Calls Tryz.prog 42 #[.agg cs.toArray] w fun e' w' => e' = .returned (.int .i64 (nodes e)) ∧ Below w.heap.size w w' := by
  refine Ex.ind (P := fun e => ∀ (cs : List Value) (w : World), ExIs w w.heap.size e cs → nodes e ≤ 1000000000000 →
    Calls Tryz.prog 42 #[.agg cs.toArray] w fun e' w' => e' = .returned (.int .i64 (nodes e)) ∧ Below w.heap.size w w') ?_ e
  intro k a b c d t ks ih cs w hE h60
  obtain ⟨ht, KA, kcp, rfl, hkc, hkm, _⟩ := hE.shape
  unfold exCells
  rw [nodes] at h60
  have hlo := fun (j : Nat) (k' a' b' c' d' : Int) (t' : ByteArray) (ks' : List Ex) (A' : Option Addr) (cp' : Nat) (W : World) (hW : Below w.heap.size w W) (hj : ks[j]? = some (.mk k' a' b' c' d' t' ks'))
      (hE' : ExIs W w.heap.size (.mk k' a' b' c' d' t' ks') (exCells k' a' b' c' d' t' A' ks'.length cp')) =>
    ih _ (List.mem_of_getElem? hj) _ W (hE'.keep hW.size fun _ _ => rfl) (by have := nodesAll_mem (List.mem_of_getElem? hj); omega)
  unfold exCells at hlo
  have HLO := Lib.hid hlo
  have HE := Lib.hid hE
  have HX : Hid (1 + nodesAll ks = nodes (.mk k a b c d t ks)) := by show _ = _; rw [nodes]
  generalize nodes (.mk k a b c d t ks) = N at HX
  have hm8 : ks.length ≤ 9223372036854775807 := by unfold maxLen at hkm; omega
  have hN : N ≤ 1000000000000 := by have := HX.out; omega
  clear hlo ih hE h60
  go_enter Tryz.func42, Tryz.ntmps42
  go_wp2
  go_loopw [3, 9] (fun n i wr => ∃ j q : Nat, j ≤ ks.length ∧ i = .int .i64 j ∧ n = .int .i64 q ∧ Hid (q + nodesAll (ks.drop j) = N) ∧ Below w.heap.size w wr) (fun _ i _ => ks.length - (intOf i).toNat)
  case atStart => exact ⟨0, 1, by omega, rfl, rfl, HX, (by repeat (first | exact Below.refl _ _ | assumption | refine Below.drew ?_ | refine below_drewN ?_ _ | refine Below.alloc ?_ (by first | omega | (simp; omega) | simp) _ | refine Below.setCell ?_ (by first | omega | (simp; omega) | simp) _))⟩
  case round =>
    obtain ⟨j, q, hj, rfl, rfl, HR, hbel⟩ := hrel
    have hz := hbel.size
    by_cases hjk : j < ks.length
    · obtain ⟨ad, k', a', b', c', d', t', ks', A', cp', rfl, hab, hej, hE', ⟨e0, e1, e2, e3, e4, e5, e6⟩⟩ := (HE.out.on hbel).kid hjk
      have hcall := fun W (hW : Below w.heap.size wr W) => HLO.out j k' a' b' c' d' t' ks' A' cp' W (hbel.trans hW) hej (hE'.on hW)
      have HC := Lib.hid hcall
      have HD := Lib.hid (drop_of hej)
      have hq : q + nodes (.mk k' a' b' c' d' t' ks') + nodesAll (ks.drop (j + 1)) = N := by rw [← HR.out, HD.out, nodesAll]; omega
      generalize nodes (.mk k' a' b' c' d' t' ks') = z at HC hq
      have hqz : q + z ≤ 1000000000000 := by omega
      have HQ := Lib.hid hq
      clear hcall hej hE' hq
      go_wp2_with fail
      refine (HC.out _ (by repeat (first | exact Below.refl _ _ | assumption | refine Below.drew ?_ | refine below_drewN ?_ _ | refine Below.alloc ?_ (by first | omega | (simp; omega) | simp) _ | refine Below.setCell ?_ (by first | omega | (simp; omega) | simp) _))).mono ?_
      rintro e w2 ⟨rfl, hb2⟩
      have hbel2 : Below w.heap.size w w2 := (hbel.alloc hz _).trans (hb2.mono (by simp; omega))
      clear hb2
      go_wp2
      go_roundw
      case rel => exact ⟨j + 1, q + z, by omega, by go_num, by go_num, HQ, hbel2⟩
      case measure => simp [intOf]; omega
    · obtain rfl : j = ks.length := by omega
      have hq : q = N := by rw [← HR.out, List.drop_length, nodesAll]; rfl
      subst hq
      go_wp2
      go_ret
      exact ⟨rfl, hbel⟩
end Go.Proofs.YtndhbdbfjkmloaaGreatDoor
namespace Go.Proofs.YtndhbdbfjkmloaaGreatDoor
open Go.RowKit Go.Maps

/-- a key of two numbers -/
theorem keyOf_two {P : Program} {k t : TypeId} {q : IntKind}
    (h : (match P.underlying k with | some (.struct fs) => decide (fs.toList.map (fun f => (f.type, f.offset)) = [(t, 0), (t, 1)]) && fs.all (·.name != "_") | _ => false) = true)
    (hc : P.cellsOf k = 2) (hk : P.keyType k = true) (ht : P.underlying t = some (.int q)) (hct : P.cellsOf t = 1) (hsz : 0 < P.types.size) {a b : Int} (ha : (Lit.int q a).wf = true) (hb : (Lit.int q b).wf = true) :
    keyOf P k (.agg #[.int q a, .int q b]) = some (.string (keyBytes [.int q a, .int q b])) := by
  cases hu : P.underlying k with
  | none => rw [hu] at h; cases h
  | some u =>
    rw [hu] at h
    cases u with
    | struct fs =>
      simp only [Bool.and_eq_true, decide_eq_true_eq] at h
      obtain ⟨h1, h2⟩ := h
      have hf : (Value.agg #[.int q a, .int q b]).formed P k = true := by simp [Value.formed, hu, hc]
      have hl : P.keyLits (P.types.size + 1) k [.int q a, .int q b] = some [.int q a, .int q b] := by
        obtain ⟨m, hm⟩ : ∃ m, P.types.size = m + 1 := ⟨P.types.size - 1, by omega⟩
        rw [hm]
        have hi : ∀ c : Int, (Lit.int q c).wf = true → P.keyLits (m + 1) t [.int q c] = some [.int q c] := by
          intro c hc
          simp [Program.keyLits, ht, hc]
        rw [Program.keyLits.eq_def]
        simp only [hu]
        rw [if_pos ⟨by simp [hc], h2⟩]
        cases hfs : fs.toList with
        | nil => rw [hfs] at h1; cases h1
        | cons f1 r =>
          cases r with
          | nil => rw [hfs] at h1; simp at h1
          | cons f2 r =>
            rw [hfs] at h1
            simp only [List.map_cons, List.cons.injEq, Prod.mk.injEq, List.map_eq_nil_iff] at h1
            obtain ⟨⟨a1, a2⟩, ⟨b1, b2⟩, rfl⟩ := h1
            simp [a1, a2, b1, b2, hct, hi a ha, hi b hb]
      unfold keyOf
      rw [hu]
      simp only [hk, hf, Bool.and_self, if_true]
      show Option.map _ (P.keyLits (P.types.size + 1) k [.int q a, .int q b]) = _
      rw [hl]
      rfl
    | _ => cases h

set_option maxRecDepth 100000
theorem laid_out : laidOutB Tryz.prog = true := by kernel_rfl
theorem key_wide : (match Tryz.prog.underlying 98 with | some (.array _ _) | some (.struct _) => true | _ => false) = true := by kernel_rfl
theorem key_row : (98 : TypeId) < Tryz.prog.types.size := of_decide_eq_true (by kernel_rfl)
theorem key_deep : Tryz.prog.keyTypeAt 2 98 = true := by kernel_rfl
theorem key_law0 : WideMaps.KeyLaw Tryz.prog 98 := deep_law_laid laid_out (m := 2) (by omega) key_row key_deep key_wide
theorem key_law : Keyed Tryz.prog 98 := Keyed.of_law key_law0
theorem map_und : Tryz.prog.underlying 74 = some (.map 98 49) := by kernel_rfl
theorem out_zero (w : World) : (zeroValue 49).run Tryz.prog w = .ok (.agg #[.bool false, .int .i64 0]) w := by kernel_rfl

def keyV (i p : Nat) : Value := .agg #[.int .i64 i, .int .i64 p]
def keyL (i p : Nat) : Lit := .string (keyBytes [.int .i64 i, .int .i64 p])
def big : Nat := 1000000000000
theorem key_of {i p : Nat} (hi : i ≤ big) (hp : p ≤ big) : keyOf Tryz.prog 98 (keyV i p) = some (keyL i p) := by
  unfold big at hi hp
  exact keyOf_two (t := 3) (by kernel_rfl) (by kernel_rfl) (by kernel_rfl) (by kernel_rfl) (by kernel_rfl) (of_decide_eq_true (by kernel_rfl)) (WalkArith.wf_i64 (by omega)) (WalkArith.wf_i64 (by omega))
theorem key_ne {i p i' p' : Nat} (hi : i ≤ big) (hp : p ≤ big) (hi' : i' ≤ big) (hp' : p' ≤ big) (h : (i, p) ≠ (i', p')) : keyL i p ≠ keyL i' p' := by
  intro he
  have h1 := key_of hi hp
  rw [he] at h1
  have h2 := key_law.inj h1 (key_of hi' hp')
  unfold keyV at h2
  simp at h2
  exact h (by rw [Int.ofNat.inj h2.1, Int.ofNat.inj h2.2])

/-- an outcome as it lies in memory, and as it is read -/
def outV : Option Nat → Value
  | none => .agg #[.bool false, .int .i64 0]
  | some n => .agg #[.bool true, .int .i64 n]
def outR (v : Value) : Option (DataW Unit × List MemPlace) := match v with
  | .agg cs => (match cs.toList with
    | [.bool b, .int .i64 n] => some (.slice [.lit (.bool b), .lit (.int .i64 n)] [], [])
    | _ => none)
  | _ => none
def outD : Option Nat → DataW Unit
  | none => .slice [.lit (.bool false), .lit (.int .i64 0)] []
  | some n => .slice [.lit (.bool true), .lit (.int .i64 n)] []
theorem outR_V (o : Option Nat) : outR (outV o) = some (outD o, []) := by cases o <;> rfl
theorem outR_inv {v : Value} {o : Option Nat} {ps : List MemPlace} (h : outR v = some (outD o, ps)) : v = outV o := by
  unfold outR at h
  split at h
  · rename_i cs
    split at h
    · rename_i b n hc
      have hcs : cs = #[.bool b, .int .i64 n] := by
        apply Array.toList_inj.1
        rw [hc]
      subst hcs
      cases o <;> (simp [outD] at h; obtain ⟨⟨rfl, rfl⟩, _⟩ := h; rfl)
    · cases h
  · cases h

/-- a block that remembers -/
def Memo (w : World) (M : Nat) (l : List ((Nat × Nat) × Option Nat)) : Prop := ∃ D, w.ownsMap Tryz.prog 98 outR M l.length D ∧ IsMap D ∧ ∀ i p, i ≤ big → p ≤ big → has D (keyL i p) = (recall l (i, p)).isSome ∧ ∀ o, recall l (i, p) = some o → D.atKey (keyL i p) (outD none) = outD o
theorem Memo.lt {w : World} {M : Nat} {l : List ((Nat × Nat) × Option Nat)} (h : Memo w M l) : M < w.heap.size := h.choose_spec.1.lt
theorem Memo.kept {w w' : World} {M : Nat} {l : List ((Nat × Nat) × Option Nat)} {r : Option Nat} (h : Memo w M l) (hg : w.grownBy w' r) (hne : some M ≠ r) : Memo w' M l := by
  obtain ⟨D, h1, h2⟩ := h
  exact ⟨D, h1.kept hg hne, h2⟩
theorem memo_made (w : World) : Memo (w.alloc (.map #[] 0)) w.heap.size [] := ⟨.map [], World.ownsMap_made _ _ _ _, isMap_empty, fun i p _ _ => ⟨rfl, fun o h => by cases h⟩⟩
/-- what is looked up -/
theorem Memo.look {w : World} {M : Nat} {l : List ((Nat × Nat) × Option Nat)} (h : Memo w M l) {i p : Nat} (hi : i ≤ big) (hp : p ≤ big) :
    (Instr.lookup 74 (.map (some M)) (.agg #[.int .i64 i, .int .i64 p]) true).run Tryz.prog w = .ok (.tuple #[outV ((recall l (i, p)).getD none), .bool (recall l (i, p)).isSome]) w := by
  obtain ⟨D, h1, h2, h3⟩ := h
  obtain ⟨ha, hb⟩ := h3 i p hi hp
  obtain ⟨v, ps, hrun, hv⟩ := h1.look_ok key_law map_und (out_zero w) (outR_V none) (key_of hi hp)
  rw [show (Instr.lookup 74 (.map (some M)) (.agg #[.int .i64 i, .int .i64 p]) true).run Tryz.prog w = _ from hrun, ha]
  have hvo : v = outV ((recall l (i, p)).getD none) := by
    cases hr : recall l (i, p) with
    | none =>
      rw [hr] at ha
      rw [atKey_of_not_has ha] at hv
      exact outR_inv hv
    | some o =>
      rw [hb o hr] at hv
      exact outR_inv hv
  rw [hvo]
/-- what is put in -/
theorem Memo.put {w : World} {M : Nat} {l : List ((Nat × Nat) × Option Nat)} (h : Memo w M l) (hl : l.length < maxLen) {i p : Nat} (hi : i ≤ big) (hp : p ≤ big) (hn : recall l (i, p) = none) (o : Option Nat) :
    ∃ w', (Instr.mapUpdate 74 (.map (some M)) (.agg #[.int .i64 i, .int .i64 p]) (outV o)).run Tryz.prog w = .ok () w' ∧ Memo w' M (l ++ [((i, p), o)]) ∧ w.grownBy w' (some M) := by
  obtain ⟨D, h1, h2, h3⟩ := h
  obtain ⟨w', hrun, r1, r2⟩ := h1.update key_law map_und hl (key_of hi hp) (outR_V o)
  refine ⟨w', hrun, ⟨D.put (keyL i p) (outD o), by simpa using r1, h2.put _ _, fun j q hj hq => ?_⟩, r2⟩
  rw [recall_app]
  by_cases he : (i, p) = (j, q)
  · injection he with e1 e2
    subst e1 e2
    rw [hn]
    simp only [Option.isSome_none, Bool.false_eq_true, if_false, if_true]
    refine ⟨has_put_same h2 (key_law.key (key_of hi hp)) _, fun o' ho => ?_⟩
    injection ho with ho
    subst ho
    exact atKey_put_same h2 (key_law.key (key_of hi hp)) _ _
  · have hne : keyL j q ≠ keyL i p := key_ne hj hq hi hp (fun e => he e.symm)
    rw [has_put_other hne, atKey_put_other hne, (h3 j q hj hq).1]
    cases hr : recall l (j, q) with
    | some o' =>
      simp only [Option.isSome_some, if_true]
      exact ⟨trivial, fun o'' ho => (h3 j q hj hq).2 o'' (by rw [hr]; exact ho)⟩
    | none =>
      simp only [Option.isSome_none, Bool.false_eq_true, if_false]
      rw [if_neg he]
      exact ⟨rfl, fun o'' ho => by cases ho⟩
end Go.Proofs.YtndhbdbfjkmloaaGreatDoor
namespace Go.Proofs.YtndhbdbfjkmloaaGreatDoor
open Go.RowKit Go.Maps

/-- where a parser lies, and what of it never turns -/
structure PC where
  B : Nat
  P : Nat
  M : Nat
  F : Nat
  base : Nat
  A : Option Addr
  n : Nat
  cp : Nat
  fcp : Nat
  s : ByteArray
  hook : Value
  firsts : List Nat
  g : List Rl
  row : Nat → List Value
  ob : Nat
  bo : Nat
  hk : Bool
  lim : Nat
def outC : Option Nat → List Value
  | none => [.bool false, .int .i64 0]
  | some n => [.bool true, .int .i64 n]
def stepC (x : Nat × Nat × Option Nat) : List Value := .int .i64 x.1 :: .int .i64 x.2.1 :: outC x.2.2
def parC (c : PC) (lv : Value) (σ : PS) : Array Value :=
  #[.slice c.A c.n c.cp, .string c.s, .map (some c.M), lv, .int .i64 σ.far, .int .u64 σ.want.a, .int .u64 σ.want.b, .int .u64 σ.want.c, .int .u64 σ.want.d, c.hook, .slice (some ⟨c.F, 0, none⟩) c.n c.fcp]
structure PC.Ok (c : PC) : Prop where
  BP : c.B ≤ c.P
  BM : c.B ≤ c.M ∧ c.B ≤ c.ob
  Bb : c.B ≤ c.base
  P : c.P < c.base
  M : c.M < c.base ∧ c.ob < c.base
  F : c.F < c.base
  ne1 : c.F ≠ c.P
  ne2 : c.F ≠ c.M ∧ c.F ≠ c.ob
  ne3 : c.M ≠ c.P ∧ c.ob ≠ c.P
  len : c.n = c.g.length
  fst : ∀ i, i < c.g.length → c.firsts[i]? = some (firstN c.g i)
  lim : c.lim ≤ 1000000000000
  bx : c.hk = true → c.ob ≠ c.M ∧ c.bo ≠ c.ob ∧ c.bo ≠ c.P ∧ c.bo ≠ c.M ∧ c.bo < c.base
/-- marks as cells -/
def mkC (l : List Nat) : List Value := l.map fun (n : Nat) => Value.int .i64 n
/-- where someone is told of each node: the marks lie in a row whose slice lies in a box -/
def MkOk (c : PC) (w : World) (l : List Nat) : Prop := c.hk = true → Blk w c.bo 76 #[.slice (some ⟨c.ob, 0, none⟩) c.lim c.lim] ∧ Blk w c.ob 3 (mkC l).toArray ∧ l.length = c.lim ∧ ∀ m ∈ l, m ≤ 3
theorem MkOk.keep {c : PC} {w w' : World} {l : List Nat} (h : MkOk c w l) (hk : ∀ k, c.hk = true → k < w.heap.size → (k = c.bo ∨ k = c.ob) → w'.heap[k]? = w.heap[k]?) : MkOk c w' l := fun hh => by
  obtain ⟨h1, h2, h3, h4⟩ := h hh
  exact ⟨(hk _ hh h1.lt (.inl rfl)).trans h1, (hk _ hh h2.lt (.inr rfl)).trans h2, h3, h4⟩
/-- nothing is remembered twice, and it all lies in the text -/
structure Tight (g : List Rl) (L : Nat) (σ : PS) : Prop where
  nodup : (σ.seen.map (·.1)).Nodup
  inn : ∀ k ∈ σ.seen.map (·.1), k.1 < g.length ∧ k.2 ≤ L
  log : σ.log = σ.seen.map fun x => (x.1.1, x.1.2, x.2)
theorem Tight.of_eq {g : List Rl} {L : Nat} {σ σ' : PS} (h : Tight g L σ) (hs : σ'.seen = σ.seen) (hl : σ'.log = σ.log) : Tight g L σ' := ⟨by rw [hs]; exact h.nodup, by rw [hs]; exact h.inn, by rw [hs, hl]; exact h.log⟩
theorem nodup_lt : ∀ (n : Nat) (l : List Nat), l.Nodup → (∀ x ∈ l, x < n) → l.length ≤ n := by
  intro n
  induction n with
  | zero =>
    intro l _ h
    cases l with
    | nil => simp
    | cons x l => exact absurd (h x (by simp)) (by omega)
  | succ n ih =>
    intro l hn h
    by_cases hm : n ∈ l
    · have h1 := ih (l.erase n) (hn.erase n) (fun x hx => by
        have h2 := (hn.mem_erase_iff).1 hx
        have h3 := h x h2.2
        have h4 := h2.1
        omega)
      rw [List.length_erase_of_mem hm] at h1
      omega
    · have := ih l hn (fun x hx => by
        have h3 := h x hx
        have : x ≠ n := fun e => hm (e ▸ hx)
        omega)
      omega
theorem Tight.len {g : List Rl} {L : Nat} {σ : PS} (h : Tight g L σ) : σ.seen.length ≤ g.length * (L + 1) := by
  have h1 := nodup_lt (g.length * (L + 1)) ((σ.seen.map (·.1)).map fun k => k.1 * (L + 1) + k.2) (by
    rw [List.nodup_iff_pairwise_ne, List.pairwise_map]
    refine List.Pairwise.imp_of_mem ?_ (List.nodup_iff_pairwise_ne.1 h.nodup)
    intro a b ha hb hab he
    have h2 := h.inn a ha
    have h3 := h.inn b hb
    apply hab
    have e1 : a.1 = b.1 := by
      have he' : a.1 * (L + 1) + a.2 = b.1 * (L + 1) + b.2 := he
      have : (a.1 * (L + 1) + a.2) / (L + 1) = (b.1 * (L + 1) + b.2) / (L + 1) := by rw [he']
      rw [Nat.mul_comm, Nat.mul_add_div (by omega), Nat.div_eq_of_lt (by omega), Nat.mul_comm, Nat.mul_add_div (by omega), Nat.div_eq_of_lt (by omega)] at this
      omega
    have e2 : a.2 = b.2 := by
      have he' : a.1 * (L + 1) + a.2 = b.1 * (L + 1) + b.2 := he
      rw [e1] at he'; omega
    exact Prod.ext e1 e2) (by
    intro x hx
    obtain ⟨k, hk, rfl⟩ := List.mem_map.1 hx
    have h2 := h.inn k hk
    have : k.1 * (L + 1) + (L + 1) ≤ g.length * (L + 1) := by rw [← Nat.succ_mul]; exact Nat.mul_le_mul_right _ h2.1
    omega)
  simpa using h1
theorem Tight.log_len {g : List Rl} {L : Nat} {σ : PS} (h : Tight g L σ) : σ.log.length = σ.seen.length := by rw [h.log]; simp
structure Par (c : PC) (w : World) (σ : PS) : Prop where
  par : ∃ lv, Blk w c.P 78 (parC c lv σ) ∧ w.ownsRow c.base 103 4 lv σ.log.length (σ.log.flatMap stepC)
  memo : Memo w c.M σ.seen
  first : ∀ i x, c.firsts[i]? = some x → w.cell? ⟨c.F, i, none⟩ = some (.int .i64 (x : Nat))
  size : c.base ≤ w.heap.size
  gram : GrIs w c.B c.g c.A c.cp c.row
  tight : Tight c.g c.s.data.toList.length σ
  marks : MkOk c w σ.marks

/-- all stands but the parser's own -/
structure Keeps (c : PC) (w w' : World) : Prop where
  os : w'.os = w.os
  tape : w'.tape = w.tape
  output : w'.output = w.output
  size : w.heap.size ≤ w'.heap.size
  blk : ∀ k, k < w.heap.size → k ≠ c.P → (k ≠ c.M ∧ k ≠ c.ob) → (k < c.base ∨ ∀ cs fr, w.heap[k]? ≠ some (.cells cs 103 fr)) → w'.heap[k]? = w.heap[k]?
section
variable {c : PC} {w w' w'' : World} {σ : PS}
theorem Keeps.refl (c : PC) (w : World) : Keeps c w w := ⟨rfl, rfl, rfl, Nat.le_refl _, fun _ _ _ _ _ => rfl⟩
theorem Keeps.trans (h : Keeps c w w') (h' : Keeps c w' w'') : Keeps c w w'' :=
  ⟨h'.os.trans h.os, h'.tape.trans h.tape, h'.output.trans h.output, Nat.le_trans h.size h'.size, fun k h1 h2 h3 h4 => by
    have e := h.blk k h1 h2 h3 h4
    rw [← e]
    refine h'.blk k (Nat.lt_of_lt_of_le h1 h.size) h2 h3 ?_
    rcases h4 with h4 | h4
    · exact .inl h4
    · exact .inr (by rw [e]; exact h4)⟩
theorem Keeps.of_below (h : Below w.heap.size w w') : Keeps c w w' := ⟨h.os, h.tape, h.output, h.size, fun k h1 _ _ _ => h.block k h1⟩
theorem Keeps.below (h : Keeps c w w') {B : Nat} (hB : B ≤ w.heap.size) (h1 : B ≤ c.P) (h2 : B ≤ c.M ∧ B ≤ c.ob) (h3 : B ≤ c.base) : Below B w w' :=
  ⟨h.os, h.tape, h.output, h.size, fun k hk => h.blk k (by omega) (by omega) (by omega) (.inl (by omega))⟩
theorem Keeps.box (h : Keeps c w w') {k : Nat} {t : TypeId} {cs : Array Value} (hb : Blk w k t cs) (ht : t ≠ 103) (h1 : k ≠ c.P) (h2 : k ≠ c.M ∧ k ≠ c.ob) : Blk w' k t cs :=
  (h.blk k hb.lt h1 h2 (.inr fun cs' fr e => by
    have hb' : w.heap[k]? = some (.cells cs t (0, 0)) := hb
    rw [hb'] at e
    injection e with e
    injection e with e1 e2 e3
    exact ht e2)).trans hb
theorem Keeps.alloc (h : Keeps c w w') (o : Obj) : Keeps c w (w'.alloc o) := h.trans (Keeps.of_below ((Below.refl _ _).alloc (Nat.le_refl _) o))
theorem Keeps.drew (h : Keeps c w w') : Keeps c w w'.drew := ⟨h.os, h.tape, h.output, h.size, h.blk⟩
theorem Par.below (h : Par c w σ) (hok : c.Ok) (hb : Below w.heap.size w w') : Par c w' σ := by
  obtain ⟨⟨lv, h1, h2⟩, h3, h4, h5, h6, h7, h8⟩ := h
  have hg : w.grownBy w' none := ⟨hb.os, hb.tape, hb.output, hb.size, fun k hk _ => hb.block k hk⟩
  exact ⟨⟨lv, h1.below hb h1.lt, h2.kept hg (by cases h : lv.ownBlock with
    | none => exact .inl rfl
    | some k => exact .inr (by simp))⟩, h3.kept hg (by simp), fun i x hi => (hb.cell (by have := hok.F; simp; omega)).trans (h4 i x hi), Nat.le_trans h5 hb.size, h6.on (hb.mono (by have := hok.Bb; omega)), h7, h8.keep fun k _ hk _ => hb.block k hk⟩
theorem Par.drew (h : Par c w σ) : Par c w.drew σ := ⟨h.par, h.memo, h.first, h.size, h.gram.on ((Below.refl _ _).drew), h.tight, h.marks.keep fun _ _ _ _ => rfl⟩
theorem Par.alloc (h : Par c w σ) (hok : c.Ok) (o : Obj) : Par c (w.alloc o) σ := h.below hok ((Below.refl _ _).alloc (Nat.le_refl _) o)
/-- a cell of the parser is set -/
theorem Par.set (h : Par c w σ) (hok : c.Ok) (i : Nat) (u : Value) {σ' : PS} (hs : ∀ lv, (parC c lv σ).setIfInBounds i u = parC c lv σ') (hl : σ'.log = σ.log) (hm : σ'.seen = σ.seen) (hmk : σ'.marks = σ.marks := by rfl) : Par c (w.setCell ⟨c.P, i, none⟩ u) σ' ∧ Keeps c w (w.setCell ⟨c.P, i, none⟩ u) := by
  obtain ⟨⟨lv, h1, h2⟩, h3, h4, h5, h6, h7, h8⟩ := h
  have hg : w.grownBy (w.setCell ⟨c.P, i, none⟩ u) (some c.P) := ⟨rfl, rfl, rfl, by simp [World.setCell], fun k hk hne => Below.heap_setCell w ⟨c.P, i, none⟩ u k (by rintro rfl; exact hne rfl)⟩
  have ho : lv.ownBlock = none ∨ lv.ownBlock ≠ some c.P := by
    cases hv : lv.ownBlock with
    | none => exact .inl rfl
    | some k => exact .inr (fun e => by injection e with e; have := (h2.lt k hv).1; have := hok.P; omega)
  refine ⟨⟨⟨lv, by rw [← hs lv]; exact h1.set_ i u, by rw [hl]; exact h2.kept hg ho⟩, by rw [hm]; exact h3.kept hg (fun e => hok.ne3.1 (by injection e)), fun j x hj => ?_, by simpa [World.setCell] using h5, h6.on ((Below.refl _ _).setCell hok.BP _), h7.of_eq hm hl, by rw [hmk]; exact h8.keep fun k hh _ hk => Below.heap_setCell w ⟨c.P, i, none⟩ u k (by have := hok.bx hh; have := hok.ne3; show k ≠ c.P; omega)⟩, ⟨rfl, rfl, rfl, by simp [World.setCell], fun k _ hk _ _ => Below.heap_setCell w ⟨c.P, i, none⟩ u k hk⟩⟩
  · rw [← h4 j x hj]
    exact World.cell?_of_block (Below.heap_setCell w ⟨c.P, i, none⟩ u c.F hok.ne1)
end
end Go.Proofs.YtndhbdbfjkmloaaGreatDoor
