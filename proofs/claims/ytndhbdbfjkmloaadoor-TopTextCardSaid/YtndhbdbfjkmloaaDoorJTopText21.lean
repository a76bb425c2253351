/- What well.sound answers; well.grow of bools. well.grow of bools; well.Well, well.Facts, mean.Look. well.Facts, mean.Look. What pack.count answers. The map that remembers outcomes: keys of two numbers. -/
import Derived.Test.YtndhbdbfjkmloaaDoorJTopText19
import Derived.Test.YtndhbdbfjkmloaaDoorJTopText20
import Derived.Maps.OwnSet
import Derived.DeepKeys4
namespace Go.Proofs.YtndhbdbfjkmloaaDoor
set_option maxHeartbeats 8000000
set_option maxRecDepth 100000
open Go.RowKit
def bools (l : List Bool) : List Value := l.map Value.bool
theorem reads_bool {w : World} {B n i : Nat} {A : Option Addr} {l : List Bool} (h : Reads w B 1 A n (bools l)) (hi : i < n) : ∃ ad b, A = some ad /\ ad.block < B /\ l[i]? = some b /\ w.cell? (ad.add i) = some (.bool b) := by
  obtain ⟨ad, u, e, hb, hx, hc⟩ := h.at_ hi
  simp only [bools, List.getElem?_map, Option.map_eq_some_iff] at hx
  obtain ⟨b, hs, rfl⟩ := hx
  exact ⟨ad, b, e, hb, hs, hc⟩
def SoQ (x : Bool) (w : World) (e : Ending) (w' : World) : Prop := e = .returned (.bool x) /\ Below w.heap.size w w'
theorem sound_any {g : List Rl} {fs : List Fa} {kn : List Bool} {A FA KA : Option Addr} {cp fcp kcp : Nat} {row : Nat -> List Value} (hlen : fs.length = g.length) (hkn : kn.length = g.length) (e : Ex) : ∀ (cs : List Value) (w : World), GrIs w w.heap.size g A cp row -> Reads w w.heap.size 3 FA fs.length (facs fs) ->
    Reads w w.heap.size 1 KA kn.length (bools kn) -> ExIs w w.heap.size e cs -> Rt g e -> Calls Tryd.prog 50 #[.agg #[.slice A g.length cp], .slice FA fs.length fcp, .slice KA kn.length kcp, .agg cs.toArray] w (SoQ (soundE g fs kn e) w) := by
  refine Ex.ind (P := fun e => ∀ (cs : List Value) (w : World), GrIs w w.heap.size g A cp row -> Reads w w.heap.size 3 FA fs.length (facs fs) ->
    Reads w w.heap.size 1 KA kn.length (bools kn) -> ExIs w w.heap.size e cs -> Rt g e -> Calls Tryd.prog 50 #[.agg #[.slice A g.length cp], .slice FA fs.length fcp, .slice KA kn.length kcp, .agg cs.toArray] w (SoQ (soundE g fs kn e) w)) ?_ e
  intro k a b c d t ks ih cs w hG hF hN hE hR
  cases hR with
  | mk _ _ _ _ _ _ _ hfit hname hkids =>
  obtain ⟨ht, EA, ecp, rfl, hkc, hkm, _⟩ := hE.shape
  unfold exCells
  have hof := fun (j : Nat) (k' a' b' c' d' : Int) (t' : ByteArray) (ks' : List Ex) (A' : Option Addr) (cp' : Nat) (W : World) (hW : Below w.heap.size w W) (hj : ks[j]? = some (.mk k' a' b' c' d' t' ks'))
      (hE' : ExIs W w.heap.size (.mk k' a' b' c' d' t' ks') (exCells k' a' b' c' d' t' A' ks'.length cp')) =>
    of_any (fcp := fcp) hlen _ _ W ((hG.on hW).more hW.size) ((hF.below hW).more hW.size) (hE'.keep hW.size fun _ _ => rfl) (hkids _ (List.mem_of_getElem? hj))
  have hso := fun (j : Nat) (k' a' b' c' d' : Int) (t' : ByteArray) (ks' : List Ex) (A' : Option Addr) (cp' : Nat) (W : World) (hW : Below w.heap.size w W) (hj : ks[j]? = some (.mk k' a' b' c' d' t' ks'))
      (hE' : ExIs W w.heap.size (.mk k' a' b' c' d' t' ks') (exCells k' a' b' c' d' t' A' ks'.length cp')) =>
    ih _ (List.mem_of_getElem? hj) _ W ((hG.on hW).more hW.size) ((hF.below hW).more hW.size) ((hN.below hW).more hW.size) (hE'.keep hW.size fun _ _ => rfl) (hkids _ (List.mem_of_getElem? hj))
  unfold exCells at hof hso
  have HOF := Lib.hid hof
  have HSO := Lib.hid hso
  have HE := Lib.hid hE
  have HLEN := Lib.hid hlen
  have HKN := Lib.hid hkn
  have HG := Lib.hid hG
  have HN := Lib.hid hN
  have hfc := fit_cases hfit
  have h8 : ks.length <= 8 := by omega
  have hm8 : ks.length <= 9223372036854775807 := by omega
  have H8 := Lib.hid h8
  have hbox : Box2 A EA g.length cp ks.length ecp k a b c d t w ((w.alloc (.cells #[.slice A g.length cp] 39)).alloc (.cells #[.int .i64 k, .int .u64 a, .int .u64 b, .int .u64 c, .int .u64 d, .string t, .slice EA ks.length ecp] 27)) := ⟨bl, (blk_at rfl).alloc _, blk_at (by simp)⟩
  clear hof hso ih hF hE hkids hfit hfc h8
  by_cases h4 : k = 4
  · subst h4
    have hz4 : ((4 : Int) == 4) = true := rfl
    obtain ⟨i, hi⟩ := Int.eq_ofNat_of_zero_le (hname rfl)
    have hil : i < kn.length := by have := (fndFrom_le g t.data.toList 0).2; rw [hkn]; unfold fnd at hi; omega
    have hfd := fun W (hW : Below w.heap.size w W) => find_any ((hG.on hW).more hW.size) t
    rw [hi] at hfd
    have HX : Hid (soundE g fs kn (.mk 4 a b c d t ks) = (kn.getD i false)) := by show _ = _; rw [soundE, if_pos rfl, hi]; rfl
    have HFD := Lib.hid hfd
    have HI := Lib.hid hi
    clear hfd hname hi hG hN hlen hkn HOF HSO
    have hi0 : (0 : Int) <= (i : Int) := by omega
    have hi1 : (i : Int) < (kn.length : Int) := by omega
    go_enter Tryd.func50, Tryd.ntmps50
    go_wp2_with fail
    refine (HFD.out _ hbox.bel).mono ?_
    rintro e w1 ⟨rfl, hb1⟩
    have hw1 := hbox.step hb1 (Nat.le_refl _)
    have hbel := hw1.bel
    obtain ⟨ad, b0, rfl, hab, hb0, hc0⟩ := reads_bool (HN.out.below hbel) hil
    have HXX : Hid (soundE g fs kn (.mk 4 a b c d t ks) = b0) := by show _ = _; rw [HX.out, List.getD_eq_getElem?_getD, hb0]; rfl
    clear hb1 hbox hb0
    go_wp2
    go_ret
    exact ⟨ret_bool HXX.out.symm, hbel⟩
  have hz4 : (k == 4) = false := by rw [beq_eq_false_iff_ne]; exact h4
  clear hname hG hN hlen hkn
  by_cases h5 : k = 5
  · have hz5 : (k == 5) = true := by rw [beq_iff_eq]; exact h5
    have HX : Hid (soundS g fs kn (ks.drop 0) = soundE g fs kn (.mk k a b c d t ks)) := by show _ = _; rw [soundE, if_neg h4, if_pos h5]; rfl
    clear h4 h5
    go_enter Tryd.func50, Tryd.ntmps50
    go_wp2
    go_loopw [10, 29] (fun _ i wr => ∃ j : Nat, j <= ks.length /\ i = .int .i64 j /\ Hid (soundS g fs kn (ks.drop j) = soundE g fs kn (.mk k a b c d t ks)) /\ Box2 A EA g.length cp ks.length ecp k a b c d t w wr) (fun _ i _ => ks.length - (intOf i).toNat)
    case atStart => exact ⟨0, by omega, rfl, HX, hbox⟩
    case round =>
      clear HX hbox
      obtain ⟨j, hj, rfl, HR, hwr⟩ := hrel
      have hbel := hwr.bel
      have hz := hbel.size
      have q0 : wr.cell? ⟨w.heap.size, 0, none⟩ = some (.slice A g.length cp) := hwr.x3.cell 0
      have hl3 := hwr.x3.lt
      by_cases hjk : j < ks.length
      · obtain ⟨ad, k', a', b', c', d', t', ks', A', cp', rfl, hab, hej, hE', ⟨e0, e1, e2, e3, e4, e5, e6⟩⟩ := (HE.out.on hbel).kid hjk
        have hcall := fun W (hW : Below w.heap.size wr W) => HSO.out j k' a' b' c' d' t' ks' A' cp' W (hbel.trans hW) hej (hE'.on hW)
        have hcall2 := fun W (hW : Below w.heap.size wr W) => HOF.out j k' a' b' c' d' t' ks' A' cp' W (hbel.trans hW) hej (hE'.on hW)
        have HC := Lib.hid hcall
        have HC2 := Lib.hid hcall2
        have HD := Lib.hid (drop_of hej)
        have HRS : Hid (soundS g fs kn (ks.drop j) = if soundE g fs kn (.mk k' a' b' c' d' t' ks') = false then false else if (ofE g fs (.mk k' a' b' c' d' t' ks')).e = false then true else soundS g fs kn (ks.drop (j + 1))) := by show _ = _; rw [HD.out, soundS]
        generalize soundE g fs kn (.mk k' a' b' c' d' t' ks') = z at HC HRS
        generalize ofE g fs (.mk k' a' b' c' d' t' ks') = x at HC2 HRS
        clear hcall hcall2 hej hE'
        go_wp2_with fail
        refine (HC.out _ bl).mono ?_
        rintro e w2 ⟨rfl, hb2⟩
        have hw2 := (hwr.alloc _).step hb2 (Nat.le_refl _)
        have hbel2 := hw2.bel
        have hr2 : Below w.heap.size wr w2 := Below.trans bl (hb2.mono (by first | omega | (simp; omega) | simp))
        have hbx : Blk w2 wr.heap.size 27 #[.int .i64 k', .int .u64 a', .int .u64 b', .int .u64 c', .int .u64 d', .string t', .slice A' ks'.length cp'] := (blk_at rfl).below hb2 (by simp)
        have q2 : w2.cell? ⟨w.heap.size, 0, none⟩ = some (.slice A g.length cp) := hw2.x3.cell 0
        have x0 : w2.cell? ⟨wr.heap.size, 0, none⟩ = some (.int .i64 k') := hbx.cell 0; have x1 : w2.cell? ⟨wr.heap.size, 1, none⟩ = some (.int .u64 a') := hbx.cell 1; have x2 : w2.cell? ⟨wr.heap.size, 2, none⟩ = some (.int .u64 b') := hbx.cell 2; have x3 : w2.cell? ⟨wr.heap.size, 3, none⟩ = some (.int .u64 c') := hbx.cell 3; have x4 : w2.cell? ⟨wr.heap.size, 4, none⟩ = some (.int .u64 d') := hbx.cell 4; have x5 : w2.cell? ⟨wr.heap.size, 5, none⟩ = some (.string t') := hbx.cell 5; have x6 : w2.cell? ⟨wr.heap.size, 6, none⟩ = some (.slice A' ks'.length cp') := hbx.cell 6
        clear hb2 hwr
        cases z
        · have HNN : Hid (soundE g fs kn (.mk k a b c d t ks) = false) := by show _ = _; rw [<- HR.out, HRS.out, if_pos rfl]
          clear HRS
          go_wp2
          go_ret
          exact ⟨ret_bool HNN.out.symm, hbel2⟩
        · have hfe := run_empty x.e x.a x.f
          go_wp2_with fail
          refine (HC2.out _ hr2).mono ?_
          rintro e w3 ⟨rfl, hb3⟩
          have hw3 := hw2.step hb3 (Nat.le_refl _)
          have hbel3 := hw3.bel
          clear hb3 hw2 hbx x0 x1 x2 x3 x4 x5 x6 q2
          cases hxe : x.e
          · have HNN : Hid (soundE g fs kn (.mk k a b c d t ks) = true) := by show _ = _; rw [<- HR.out, HRS.out, if_neg (by decide), if_pos hxe]
            rw [hxe] at hfe
            clear HRS hxe
            go_wp2
            go_ret
            exact ⟨ret_bool HNN.out.symm, hbel3⟩
          · have HNN : Hid (soundS g fs kn (ks.drop (j + 1)) = soundE g fs kn (.mk k a b c d t ks)) := by show _ = _; rw [<- HR.out, HRS.out, if_neg (by decide), if_neg (by rw [hxe]; decide)]
            rw [hxe] at hfe
            clear HRS hxe
            go_wp2
            go_roundw
            case rel => exact ⟨j + 1, by omega, by go_num, HNN, hw3⟩
            case measure => simp [intOf]; omega
      · obtain rfl : j = ks.length := by omega
        have HNN : Hid (soundE g fs kn (.mk k a b c d t ks) = true) := by show _ = _; rw [<- HR.out, List.drop_length, soundS]
        go_wp2
        go_ret
        exact ⟨ret_bool HNN.out.symm, hbel⟩
  have hz5 : (k == 5) = false := by rw [beq_eq_false_iff_ne]; exact h5
  have HX : Hid (soundA g fs kn (ks.drop 0) = soundE g fs kn (.mk k a b c d t ks)) := by show _ = _; rw [soundE, if_neg h4, if_neg h5]; rfl
  clear h4 h5 HOF
  go_enter Tryd.func50, Tryd.ntmps50
  go_wp2
  go_loopw [12, 49] (fun _ i wr => ∃ j : Nat, j <= ks.length /\ i = .int .i64 j /\ Hid (soundA g fs kn (ks.drop j) = soundE g fs kn (.mk k a b c d t ks)) /\ Box2 A EA g.length cp ks.length ecp k a b c d t w wr) (fun _ i _ => ks.length - (intOf i).toNat)
  case atStart => exact ⟨0, by omega, rfl, HX, hbox⟩
  case round =>
    clear HX hbox
    obtain ⟨j, hj, rfl, HR, hwr⟩ := hrel
    have hbel := hwr.bel
    have hz := hbel.size
    have q0 : wr.cell? ⟨w.heap.size, 0, none⟩ = some (.slice A g.length cp) := hwr.x3.cell 0
    have hl3 := hwr.x3.lt
    by_cases hjk : j < ks.length
    · obtain ⟨ad, k', a', b', c', d', t', ks', A', cp', rfl, hab, hej, hE', ⟨e0, e1, e2, e3, e4, e5, e6⟩⟩ := (HE.out.on hbel).kid hjk
      have hcall := fun W (hW : Below w.heap.size wr W) => HSO.out j k' a' b' c' d' t' ks' A' cp' W (hbel.trans hW) hej (hE'.on hW)
      have HC := Lib.hid hcall
      have HD := Lib.hid (drop_of hej)
      have HRS : Hid (soundA g fs kn (ks.drop j) = if soundE g fs kn (.mk k' a' b' c' d' t' ks') = false then false else soundA g fs kn (ks.drop (j + 1))) := by show _ = _; rw [HD.out, soundA]
      generalize soundE g fs kn (.mk k' a' b' c' d' t' ks') = z at HC HRS
      clear hcall hej hE'
      go_wp2_with fail
      refine (HC.out _ bl).mono ?_
      rintro e w2 ⟨rfl, hb2⟩
      have hw2 := (hwr.alloc _).step hb2 (Nat.le_refl _)
      have hbel2 := hw2.bel
      clear hb2 hwr
      cases z
      · have HNN : Hid (soundE g fs kn (.mk k a b c d t ks) = false) := by show _ = _; rw [<- HR.out, HRS.out, if_pos rfl]
        clear HRS
        go_wp2
        go_ret
        exact ⟨ret_bool HNN.out.symm, hbel2⟩
      · have HNN : Hid (soundA g fs kn (ks.drop (j + 1)) = soundE g fs kn (.mk k a b c d t ks)) := by show _ = _; rw [<- HR.out, HRS.out, if_neg (by decide)]
        clear HRS
        go_wp2
        go_roundw
        case rel => exact ⟨j + 1, by omega, by go_num, HNN, hw2⟩
        case measure => simp [intOf]; omega
    · obtain rfl : j = ks.length := by omega
      have HNN : Hid (soundE g fs kn (.mk k a b c d t ks) = true) := by show _ = _; rw [<- HR.out, List.drop_length, soundA]
      go_wp2
      go_ret
      exact ⟨ret_bool HNN.out.symm, hbel⟩
theorem wel1_any {g : List Rl} {A FA : Option Addr} {cp fcp : Nat} {row : Nat -> List Value} {fs : List Fa} {kn : List Bool} {KA : Option Addr} {kcp gb fb i : Nat} {W : World} (hlen : fs.length = g.length) (hkn : kn.length = g.length) (hG : GrIs W W.heap.size g A cp row) (hF : Reads W W.heap.size 3 FA fs.length (facs fs))
    (hN : Reads W W.heap.size 1 KA kn.length (bools kn)) (hgb : Blk W gb 39 #[.slice A g.length cp]) (hfb : Blk W fb 88 #[.slice FA fs.length fcp]) (hR : ∀ r ∈ g, Rt g r.2) (hi : i < g.length) :
    Calls Tryd.prog 49 #[.slice KA kn.length kcp, .int .i64 i, .pointer (some ⟨gb, 0, none⟩), .pointer (some ⟨fb, 0, none⟩)] W (SoQ (nxB g fs kn i) W) := by
  have hm := hG.cap
  have hle := hG.le
  unfold maxLen at hm
  obtain ⟨ad, nm, k', a', b', c', d', t', ks', A', cp', rfl, hab, hej, hnm, hE, hS⟩ := hG.rule hi
  have hx : nxB g fs kn i = soundE g fs kn (.mk k' a' b' c' d' t' ks') := by unfold nxB; rw [hej]
  have hcall := fun (W' : World) (h : Below W.heap.size W W') => sound_any (fcp := fcp) (kcp := kcp) hlen hkn _ _ W' ((hG.on h).more h.size) ((hF.below h).more h.size) ((hN.below h).more h.size) ((hE.on h).keep h.size fun _ _ => rfl) (hR _ (List.mem_of_getElem? hej))
  unfold exCells at hcall
  rw [hx]
  generalize soundE g fs kn (.mk k' a' b' c' d' t' ks') = x at hcall
  have HC := Lib.hid hcall
  have gl := hgb.lt
  have fl := hfb.lt
  have hcc : ∀ W', Below W.heap.size W W' ->
      W'.cell? ⟨gb, 0, none⟩ = some (.slice (some ad) g.length cp) /\ W'.cell? ⟨fb, 0, none⟩ = some (.slice FA fs.length fcp) /\ Eight W' (ad.add (i * 8)) nm k' a' b' c' d' t' A' ks'.length cp' := fun W' hW' =>
    have hk := fun (q : Addr) (hq : q.block = (ad.add (i * 8)).block) => hW'.cell (p := q) (by rw [hq, add_block]; omega)
    ⟨(hgb.below hW' gl).cell 0, (hfb.below hW' fl).cell 0, (hk _ rfl).trans hS.c0, (hk ⟨_, _, none⟩ rfl).trans hS.c1, (hk ⟨_, _, none⟩ rfl).trans hS.c2, (hk ⟨_, _, none⟩ rfl).trans hS.c3, (hk ⟨_, _, none⟩ rfl).trans hS.c4, (hk ⟨_, _, none⟩ rfl).trans hS.c5, (hk ⟨_, _, none⟩ rfl).trans hS.c6, (hk ⟨_, _, none⟩ rfl).trans hS.c7⟩
  have HCC := Lib.hid hcc
  have HLEN := Lib.hid hlen
  have HKN := Lib.hid hkn
  clear hcc hS hgb hfb hcall hE hej hx hF hG hR hlen hkn hN hnm
  go_enter Tryd.func49, Tryd.ntmps49
  go_wp2_with fail
  refine wp_region_q (Below W.heap.size W) (by kernel_rfl) (by kernel_rfl) (Below.drew (Below.refl _ _)) ?_
  repeat
    (first | ((with_reducible apply QW.free rfl); · (intro W hW; obtain ⟨q1, q2, ⟨s0, s1, s2, s3, s4, s5, s6, s7⟩⟩ := HCC.out W hW; go_simp; first | rfl | (go_at_call 50; refine (HC.out _ hW).mono ?_; exact fun e w' h => ⟨h.1, hW.trans (h.2.mono hW.size)⟩))) | ((with_reducible apply QW.skip rfl); · (first | exact ⟨_, _, rfl, rfl, .inl rfl⟩ | exact ⟨_, _, rfl, rfl, .inr rfl⟩)) | ((with_reducible apply QW.take rfl); (· exact ⟨_, rfl, rfl⟩); (· (intro W hW; obtain ⟨q1, q2, ⟨s0, s1, s2, s3, s4, s5, s6, s7⟩⟩ := HCC.out W hW; go_simp; first | rfl | (go_at_call 50; refine (HC.out _ hW).mono ?_; exact fun e w' h => ⟨h.1, hW.trans (h.2.mono hW.size)⟩))))); (try simp only [Act.put, List.setIfInBounds_toArray, List.set_cons_zero, List.set_cons_succ])
  refine QW.nil ?_
  intro w1 hw1
  go_wp2
  go_ret
  exact ⟨rfl, hw1⟩
def BoB (w : World) (b : Nat) (kn : List Bool) : Prop := Blk w b 4 (bools kn).toArray
theorem BoB.reads {w : World} {b B : Nat} {kn : List Bool} (h : BoB w b kn) (hb : b < B) : Reads w B 1 (some ⟨b, 0, none⟩) kn.length (bools kn) :=
  ⟨by simp [bools], fun _ => ⟨_, rfl, hb, World.news_of_block h⟩⟩
theorem BoB.cell {w : World} {b i : Nat} {kn : List Bool} {x : Bool} (h : BoB w b kn) (hx : kn[i]? = some x) : w.cell? ⟨b, i, none⟩ = some (.bool x) := by
  refine (Blk.cell h i).trans ?_
  rw [List.getElem?_toArray, bools, List.getElem?_map, hx]
  rfl
theorem BoB.put {w : World} {b : Nat} {kn : List Bool} (h : BoB w b kn) (i : Nat) (x : Bool) : BoB (w.setCell ⟨b, i, none⟩ (.bool x)) b (kn.set i x) := by
  have h1 := Blk.set_ h i (.bool x)
  unfold BoB
  have e : ((bools kn).toArray.setIfInBounds i (.bool x)) = (bools (kn.set i x)).toArray := by simp [bools, List.map_set]
  rw [<- e]
  exact h1
theorem info_bool : (Tryd.prog.info? 4).map (fun i => (i.zero, i.size, i.bytes)) = some (some (.bool false), 1, 1) := by kernel_rfl
theorem made_bools (n : Nat) : madeCells (Value.bool false).cells (n * 1) = (bools (List.replicate n false)).toArray := by
  apply Array.ext
  · simp [size_madeCells, bools]
  · intro i h1 h2
    simp [madeCells, Value.cells, bools, Nat.mod_one]
theorem sound_mono {g : List Rl} {fs : List Fa} {l m : List Bool} (h : LeL boOrd l m) (e : Ex) : soundE g fs l e = true -> soundE g fs m e = true := by
  refine Ex.ind (P := fun e => soundE g fs l e = true -> soundE g fs m e = true) ?_ e
  intro k a b c d t ks ih hs
  rw [soundE] at hs ⊢
  by_cases k4 : k = 4
  · rw [if_pos k4] at hs ⊢
    have hl := h.1
    rw [List.getD_eq_getElem?_getD] at hs ⊢
    cases hx : l[(fnd g t.data.toList).toNat]? with
    | none => rw [hx] at hs; cases hs
    | some x =>
      rw [hx] at hs
      have hlt := getElem?_lt hx
      have hy : m[(fnd g t.data.toList).toNat]? = some (m[(fnd g t.data.toList).toNat]'(by omega)) := List.getElem?_eq_getElem (by omega)
      rw [hy]
      exact h.2 _ _ _ hx hy hs
  rw [if_neg k4] at hs ⊢
  by_cases k5 : k = 5
  · rw [if_pos k5] at hs ⊢
    have : ∀ es : List Ex, (∀ e ∈ es, e ∈ ks) -> soundS g fs l es = true -> soundS g fs m es = true := by
      intro es
      induction es with
      | nil => intro _ h; exact h
      | cons e es ihe =>
        intro hm hse
        rw [soundS] at hse ⊢
        split at hse
        · cases hse
        rename_i h1
        rw [if_neg (by rw [ih e (hm e (by simp)) (by simpa using h1)]; decide)]
        split
        · rfl
        · rename_i h2
          rw [if_neg h2] at hse
          exact ihe (fun e he => hm e (by simp [he])) hse
    exact this ks (fun e he => he) hs
  rw [if_neg k5] at hs ⊢
  have : ∀ es : List Ex, (∀ e ∈ es, e ∈ ks) -> soundA g fs l es = true -> soundA g fs m es = true := by
    intro es
    induction es with
    | nil => intro _ h; exact h
    | cons e es ihe =>
      intro hm hse
      rw [soundA] at hse ⊢
      split at hse
      · cases hse
      rename_i h1
      rw [if_neg (by rw [ih e (hm e (by simp)) (by simpa using h1)]; decide)]
      exact ihe (fun e he => hm e (by simp [he])) hse
  exact this ks (fun e he => he) hs
theorem nxB_mono (g : List Rl) (fs : List Fa) (n : Nat) : Mono boOrd (nxB g fs) n := by
  intro l m _ h i
  unfold nxB
  split
  · exact sound_mono h _
  · exact boOrd.refl _
theorem low_zeroB (g : List Rl) (fs : List Fa) : Low boOrd (nxB g fs) (List.replicate g.length false) := by
  intro i x hx
  rw [List.getElem?_replicate] at hx
  split at hx
  · injection hx with hx
    subst hx
    exact fun h => by cases h
  · cases hx
theorem growB_any {g : List Rl} {A FA : Option Addr} {cp fcp : Nat} {row : Nat -> List Value} {fs : List Fa} {w : World} {gb fb : Nat} (hlen : fs.length = g.length) (h : GrIs w w.heap.size g A cp row) (hF : Reads w w.heap.size 3 FA fs.length (facs fs)) (hgb : Blk w gb 39 #[.slice A g.length cp]) (hfb : Blk w fb 88 #[.slice FA fs.length fcp]) (hR : ∀ r ∈ g, Rt g r.2) (h10 : g.length <= 10) :
    Calls Tryd.prog 48 #[.int .i64 g.length, .func (.func 49) #[] #[.pointer (some ⟨gb, 0, none⟩), .pointer (some ⟨fb, 0, none⟩)]] w fun e w' => e = .returned (.slice (some ⟨w.heap.size, 0, none⟩) g.length g.length) /\ BoB w' w.heap.size (knownG g fs) /\ Below w.heap.size w w' := by
  obtain ⟨i0, hi, hz0, hz1, hz2⟩ := info_parts info_bool
  have hmk := made_run Tryd.underlying91 hi hz0 .i64 .i64 (n := g.length) (c := g.length) (Nat.le_refl _) (by rw [hz2]; omega) (by omega)
  rw [hz1, made_bools] at hmk
  have hgl := hgb.lt
  have hfl := hfb.lt
  have hnx : ∀ (W : World) (kn : List Bool) (i : Nat), kn.length = g.length -> Below w.heap.size w W -> BoB W w.heap.size kn -> i < g.length ->
      Calls Tryd.prog 49 #[.slice (some ⟨w.heap.size, 0, none⟩) g.length g.length, .int .i64 i, .pointer (some ⟨gb, 0, none⟩), .pointer (some ⟨fb, 0, none⟩)] W (SoQ (nxB g fs kn i) W) := by
    intro W kn i hkl hW hb hi
    have := wel1_any (kcp := g.length) hlen hkl ((h.on hW).more hW.size) ((hF.below hW).more hW.size) (hb.reads (B := W.heap.size) (Blk.lt hb)) (hgb.below hW hgl) (hfb.below hW hfl) hR hi
    rw [hkl] at this
    exact this
  have HNX := Lib.hid hnx
  have hn0 : (List.replicate g.length false).length = g.length := by simp
  have hlow := low_zeroB g fs
  have HRES : Hid (knownG g fs = growG (nxB g fs) (wtL boOrd (List.replicate g.length false) + 1) (List.replicate g.length false)) := by exact rfl
  generalize (List.replicate g.length false) = k0 at hmk hn0 hlow HRES
  have HN0 := Lib.hid hn0
  have HLOW := Lib.hid hlow
  generalize knownG g fs = res at HRES ⊢
  clear h hgb hfb hR hnx hn0 hlow hz0 hz1 hz2 hi hF hlen
  go_enter Tryd.func48, Tryd.ntmps48
  go_wp2
  go_loopg [6] (wtL boOrd k0 + 1) (fun n s6 wr => ∃ (kn : List Bool) (m : Bool), s6 = .bool m /\ Hid (kn.length = g.length) /\ Hid (Low boOrd (nxB g fs) kn) /\ Hid (m = true -> wtL boOrd kn < n /\ growG (nxB g fs) n kn = res) /\ Hid (m = false -> kn = res) /\ BoB wr w.heap.size kn /\ Below w.heap.size w wr)
  case atStart => exact ⟨k0, true, rfl, HN0, HLOW, fun _ => ⟨by omega, HRES.out.symm⟩, (fun h => by cases h), blk_at rfl, bl⟩
  case round =>
    obtain ⟨kn, m, rfl, HL, HLO, HT, HFa, hfb, hwr⟩ := hrel
    cases m
    · obtain rfl : kn = res := HFa.out rfl
      go_wp2
      go_ret
      exact ⟨rfl, hfb, hwr⟩
    · obtain ⟨hlt, hgr⟩ := HT.out rfl
      obtain ⟨f, rfl⟩ : ∃ f, gk = f + 1 := ⟨gk - 1, by omega⟩
      have hr0 : Hid (roundG (nxB g fs) (g.length - 0) 0 kn false = roundG (nxB g fs) kn.length 0 kn false) := by show _ = _; rw [HL.out, Nat.sub_zero]
      have HGR : Hid ((if (roundG (nxB g fs) kn.length 0 kn false).2 = true then growG (nxB g fs) f (roundG (nxB g fs) kn.length 0 kn false).1 else (roundG (nxB g fs) kn.length 0 kn false).1) = res) := by
        show _ = _
        rw [<- hgr, growG]
      have hk := round_keeps (nx := nxB g fs) (P := fun l => l.length = g.length /\ Low boOrd (nxB g fs) l) (fun l i h hi hne => ⟨by simp; exact h.1, (low_step (by rw [h.1]; exact nxB_mono g fs _) h.2 hi hne).1⟩) kn.length 0 kn false (by omega) ⟨HL.out, HLO.out⟩
      have hw := round_wt (nxB_mono g fs g.length) kn.length 0 kn false HL.out (by rw [HL.out]; omega) HLO.out
      generalize roundG (nxB g fs) kn.length 0 kn false = r at hr0 HGR hk hw
      have HK := Lib.hid hk
      have HW := Lib.hid hw
      have HLT := Lib.hid hlt
      clear HT HFa hgr hk hw hlt HLO
      go_wp2
      go_loopw [6, 14] (fun s6 i wr => ∃ (j : Nat) (kn' : List Bool) (m' : Bool), j <= g.length /\ i = .int .i64 j /\ s6 = .bool m' /\ Hid (roundG (nxB g fs) (g.length - j) j kn' m' = r) /\ Hid (kn'.length = g.length) /\ BoB wr w.heap.size kn' /\ Below w.heap.size w wr) (fun _ i _ => g.length - (intOf i).toNat)
      case atStart => exact ⟨0, kn, false, by omega, rfl, rfl, hr0, HL, hfb, hwr⟩
      case round =>
        clear hfb hwr hr0 HL
        obtain ⟨j, kn', m', hj, rfl, rfl, HR, HL, hfb, hwr⟩ := hrel
        by_cases hjn : j < g.length
        · have hcall := HNX.out wr kn' j HL.out hwr hfb hjn
          have hy : kn'[j]? = some (kn'[j]'(by rw [HL.out]; exact hjn)) := List.getElem?_eq_getElem _
          generalize kn'[j]'(by rw [HL.out]; exact hjn) = y at hy
          have HRS : Hid (roundG (nxB g fs) (g.length - j) j kn' m' = if nxB g fs kn' j = y then roundG (nxB g fs) (g.length - (j + 1)) (j + 1) kn' m' else roundG (nxB g fs) (g.length - (j + 1)) (j + 1) (kn'.set j (nxB g fs kn' j)) true) := by
            show _ = _
            rw [show g.length - j = (g.length - (j + 1)) + 1 by omega, roundG, hy]
            by_cases h : nxB g fs kn' j = y
            · rw [if_pos h, if_pos (by rw [h])]
            · rw [if_neg h, if_neg (fun e => h (by injection e with e; exact e.symm))]
          generalize nxB g fs kn' j = x at hcall HRS
          have HY := Lib.hid hy
          have HC := Lib.hid hcall
          have hadr := addr0 w.heap.size j
          have hbl := Blk.lt hfb
          clear hy hcall
          go_wp2_with fail
          refine HC.out.mono ?_
          rintro e w1 ⟨rfl, hb1⟩
          have hf1 : BoB w1 w.heap.size kn' := Blk.below hfb hb1 hbl
          have hw1 : Below w.heap.size wr w1 := Below.trans bl (hb1.mono (by first | omega | (simp; omega) | simp)); have hzw1 := hw1.size
          have hww : Below w.heap.size w w1 := hwr.trans hw1
          have hc0 := hf1.cell HY.out
          have hfz := Blk.frozen hf1 j
          clear hb1
          by_cases hxy : x = y
          · have HN : Hid (roundG (nxB g fs) (g.length - (j + 1)) (j + 1) kn' m' = r) := by
              show _ = _
              rw [<- HR.out, HRS.out, if_pos hxy]
            subst hxy
            clear HRS HC
            cases x
            all_goals
              go_wp2
              go_roundw
              case rel => exact ⟨j + 1, kn', m', by omega, by go_num, rfl, HN, HL, hf1, hww⟩
              case measure => simp [intOf]; omega
          · have HN : Hid (roundG (nxB g fs) (g.length - (j + 1)) (j + 1) (kn'.set j x) true = r) := by
              show _ = _
              rw [<- HR.out, HRS.out, if_neg hxy]
            have hf4 := hf1.put j x
            have hw4 : Below w.heap.size w (w1.setCell ⟨w.heap.size, j, none⟩ (.bool x)) := hww.setCell (Nat.le_refl _) _
            have HLL : Hid ((kn'.set j x).length = g.length) := by show _ = _; rw [List.length_set]; exact HL.out
            clear HRS HC
            cases x <;> cases y <;> first | exact absurd rfl hxy | skip
            all_goals
              clear hxy
              go_wp2
              go_roundw
              case rel => exact ⟨j + 1, _, true, by omega, by go_num, rfl, HN, HLL, hf4, hw4⟩
              case measure => simp [intOf]; omega
        · obtain rfl : j = g.length := by omega
          obtain rfl : r = (kn', m') := by rw [<- HR.out, Nat.sub_self, roundG]
          have hlow := HK.out.1.2
          have hwt := HW.out
          have hlt := HLT.out
          have HLO : Hid (Low boOrd (nxB g fs) kn') := hlow
          have HT : Hid (m' = true -> wtL boOrd kn' < f /\ growG (nxB g fs) f kn' = res) := by
            intro hm
            refine ⟨?_, ?_⟩
            · rcases hwt.2 hm with h | h
              · cases h
              · have : wtL boOrd kn' < wtL boOrd kn := h
                omega
            · have := HGR.out
              rw [if_pos hm] at this
              exact this
          have HFa : Hid (m' = false -> kn' = res) := by
            intro hm
            have := HGR.out
            rw [if_neg (by simp [hm])] at this
            exact this
          clear hlow hwt hlt HR
          go_wp2
          go_roundg f
          case rel => exact ⟨kn', m', rfl, HL, HLO, HT, HFa, hfb, hwr⟩
          case measure => omega
structure WellB (A : Option Addr) (cp : Nat) (g : List Rl) (fs : List Fa) (fb xb : Nat) (w W : World) : Prop where
  bel : Below w.heap.size w W
  gb : Blk W w.heap.size 39 #[.slice A g.length cp]
  xb : Blk W xb 88 #[.slice (some ⟨fb, 0, none⟩) g.length g.length]
  fac : FacB W fb fs
theorem WellB.step {A : Option Addr} {cp : Nat} {g : List Rl} {fs : List Fa} {fb xb : Nat} {w W W' : World} (h : WellB A cp g fs fb xb w W) {B : Nat} (hb : Below B W W') (hB : W.heap.size <= B) : WellB A cp g fs fb xb w W' :=
  have hb' := hb.mono hB
  ⟨h.bel.trans (hb'.mono h.bel.size), h.gb.below hb' h.gb.lt, h.xb.below hb' h.xb.lt, Blk.below h.fac hb' (Blk.lt h.fac)⟩
theorem WellB.alloc {A : Option Addr} {cp : Nat} {g : List Rl} {fs : List Fa} {fb xb : Nat} {w W : World} (h : WellB A cp g fs fb xb w W) (o : Obj) : WellB A cp g fs fb xb w (W.alloc o) := h.step ((Below.refl _ _).alloc (Nat.le_refl _) o) (Nat.le_refl _)
def WellQ (g : List Rl) (w : World) (e : Ending) (w' : World) : Prop := e = .returned (.tuple #[.int .i64 (wellG g).1, .int .i64 (wellG g).2]) /\ Below w.heap.size w w'
theorem well_any {g : List Rl} {A : Option Addr} {cp : Nat} {row : Nat -> List Value} {w : World} (h : GrIs w w.heap.size g A cp row) : Calls Tryd.prog 25 #[.agg #[.slice A g.length cp]] w (WellQ g w) := by
  have hck := fun W (hW : Below w.heap.size w W) => gcheck_any ((h.on hW).more hW.size)
  have HCK := Lib.hid hck
  have HG := Lib.hid h
  have hbg : Blk (w.alloc (.cells #[.slice A g.length cp] 39)) w.heap.size 39 #[.slice A g.length cp] := blk_at rfl
  clear hck h
  by_cases h0 : checkG g = 0
  · have R := right_of h0
    have h10 := R.ten
    have hm8 : g.length <= 9223372036854775807 := by omega
    have HR := Lib.hid R.rt
    have HW0 : Hid (wellG g = match badLoop g (factsG g) g 0 with
      | some i => (i, 9)
      | none => match badLeft (knownG g (factsG g)) 0 with
        | some i => (i, 8)
        | none => (0, 0)) := if_neg (by simp [h0])
    rw [h0] at HCK
    have HFL := Lib.hid (facts_len g)
    clear h0 R
    go_enter Tryd.func25, Tryd.ntmps25
    go_wp2_with fail
    refine (HCK.out _ bl).mono ?_
    rintro e w1 ⟨rfl, hb1⟩
    have hbg1 := hbg.below hb1 hbg.lt
    have hw1 : Below w.heap.size w w1 := ((Below.refl _ w).alloc (Nat.le_refl _) _).trans (hb1.mono (by simp))
    have g1 : w1.cell? ⟨w.heap.size, 0, none⟩ = some (.slice A g.length cp) := hbg1.cell 0
    clear hb1 hbg
    go_wp2_with fail
    refine (facts_any ((HG.out.on hw1).more hw1.size) HR.out h10).mono ?_
    rintro e w2 ⟨fb, rfl, hfb, hfl, hb2⟩
    have hB : WellB A cp g (factsG g) fb w2.heap.size w (w2.alloc (.cells #[.slice (some ⟨fb, 0, none⟩) g.length g.length] 88)) :=
      ⟨(hw1.trans (hb2.mono hw1.size)).alloc (by have := hb2.size; have := hw1.size; omega) _, (hbg1.below hb2 hbg1.lt).alloc _, blk_at rfl, Blk.alloc hfb _⟩
    have q0 : (w2.alloc (.cells #[.slice (some ⟨fb, 0, none⟩) g.length g.length] 88)).cell? ⟨w.heap.size, 0, none⟩ = some (.slice A g.length cp) := hB.gb.cell 0
    have hxl : w.heap.size < w2.heap.size := by have := hB.gb.lt; have := hbg1.lt; have := hb2.size; omega
    have HL0 : Hid (badLoop g (factsG g) (g.drop 0) 0 = badLoop g (factsG g) g 0) := rfl
    generalize factsG g = fs at HW0 HFL hB HL0
    clear hfb hfl hb2 hbg1 hw1 g1
    go_wp2
    go_loopw [6, 7, 21] (fun _ _ i wr => ∃ j : Nat, j <= g.length /\ i = .int .i64 j /\ Hid (badLoop g fs (g.drop j) j = badLoop g fs g 0) /\ WellB A cp g fs fb w2.heap.size w wr) (fun _ _ i _ => g.length - (intOf i).toNat)
    case atStart => exact ⟨0, by omega, rfl, HL0, hB⟩
    case round =>
      clear hB q0 HL0
      obtain ⟨j, hj, rfl, HJ, hwr⟩ := hrel
      have hbel := hwr.bel
      have hz := hbel.size
      have hgl := hwr.gb.lt
      have hxl2 := hwr.xb.lt
      have q0 : wr.cell? ⟨w.heap.size, 0, none⟩ = some (.slice A g.length cp) := hwr.gb.cell 0
      have q1 : wr.cell? ⟨w2.heap.size, 0, none⟩ = some (.slice (some ⟨fb, 0, none⟩) g.length g.length) := hwr.xb.cell 0
      by_cases hjk : j < g.length
      · obtain ⟨ad, nm, k', a', b', c', d', t', ks', A', cp', rfl, hab, hej, hnm, hE, ⟨e0, e1, e2, e3, e4, e5, e6, e7⟩⟩ := (HG.out.on hbel).rule hjk
        have hcall : ∀ W, WellB (some ad) cp g fs fb w2.heap.size w W -> Below w.heap.size wr W -> Calls Tryd.prog 47 #[.agg #[.slice (some ad) g.length cp], .slice (some ⟨fb, 0, none⟩) g.length g.length, .agg #[.int .i64 k', .int .u64 a', .int .u64 b', .int .u64 c', .int .u64 d', .string t', .slice A' ks'.length cp']] W
            fun e' w' => e' = .returned (.bool (loopsE g fs (.mk k' a' b' c' d' t' ks'))) /\ Below W.heap.size W w' := by
          intro W hW hr
          have := loops_any (fcp := g.length) HFL.out (.mk k' a' b' c' d' t' ks') _ W ((HG.out.on hW.bel).more hW.bel.size) (hW.fac.reads (B := W.heap.size) (Blk.lt hW.fac)) ((hE.on hr).keep hW.bel.size fun _ _ => rfl) (HR.out _ (List.mem_of_getElem? hej))
          rw [HFL.out] at this
          exact this
        have HC := Lib.hid hcall
        have HD := Lib.hid (drop_of hej)
        have HS : Hid (badLoop g fs (g.drop j) j = if loopsE g fs (.mk k' a' b' c' d' t' ks') = true then some j else badLoop g fs (g.drop (j + 1)) (j + 1)) := by show _ = _; rw [HD.out, badLoop]
        generalize loopsE g fs (.mk k' a' b' c' d' t' ks') = z at HC HS
        have hwr2 := hwr.alloc (.cells #[.string nm, .int .i64 k', .int .u64 a', .int .u64 b', .int .u64 c', .int .u64 d', .string t', .slice A' ks'.length cp'] 71)
        have hrr : Below w.heap.size wr (wr.alloc (.cells #[.string nm, .int .i64 k', .int .u64 a', .int .u64 b', .int .u64 c', .int .u64 d', .string t', .slice A' ks'.length cp'] 71)) := bl
        clear hcall hE hej hnm hwr
        go_wp2_with fail
        refine (HC.out _ hwr2 hrr).mono ?_
        rintro e w3 ⟨rfl, hb3⟩
        have hw3 := hwr2.step hb3 (Nat.le_refl _)
        have hbel3 := hw3.bel
        clear hb3 hwr2 hrr
        cases z
        · have HN : Hid (badLoop g fs (g.drop (j + 1)) (j + 1) = badLoop g fs g 0) := by show _ = _; rw [<- HJ.out, HS.out, if_neg (by decide)]
          clear HS
          go_wp2
          go_roundw
          case rel => exact ⟨j + 1, by omega, by go_num, HN, hw3⟩
          case measure => simp [intOf]; omega
        · have HN : Hid (wellG g = ((j : Int), 9)) := by show _ = _; rw [HW0.out, <- HJ.out, HS.out, if_pos rfl]
          clear HS
          go_wp2
          go_ret2
          exact ⟨by rw [HN.out]; rfl, hbel3⟩
      · obtain rfl : j = g.length := by omega
        have HN : Hid (wellG g = match badLeft (knownG g fs) 0 with
          | some i => (i, 8)
          | none => (0, 0)) := by show _ = _; rw [HW0.out, <- HJ.out, List.drop_length, badLoop]
        have hgr := growB_any (fcp := g.length) HFL.out ((HG.out.on hbel).more hz) (FA := some ⟨fb, 0, none⟩) (hwr.fac.reads (B := wr.heap.size) (Blk.lt hwr.fac)) hwr.gb (by rw [HFL.out]; exact hwr.xb) HR.out h10
        have HGR := Lib.hid hgr
        clear hgr HW0 HJ
        go_wp2_with fail
        refine HGR.out.mono ?_
        rintro e w3 ⟨rfl, hbo, hb3⟩
        have hbel3 : Below w.heap.size w w3 := hbel.trans (hb3.mono hz)
        have HKL : Hid ((knownG g fs).length = g.length) := known_len
        have HAD := Lib.hid (fun i : Nat => addr0 wr.heap.size i)
        have HK0 : Hid (badLeft ((knownG g fs).drop 0) 0 = badLeft (knownG g fs) 0) := rfl
        generalize knownG g fs = kn at HN hbo HKL HK0
        clear hb3 hwr q0 q1
        go_wp2
        go_loopw [9, 10, 40] (fun _ _ i wq => ∃ j : Nat, j <= g.length /\ i = .int .i64 j /\ Hid (badLeft (kn.drop j) j = badLeft kn 0) /\ w3 = wq) (fun _ _ i _ => g.length - (intOf i).toNat)
        case atStart => exact ⟨0, by omega, rfl, HK0, rfl⟩
        case round =>
          obtain ⟨j, hj, rfl, HJ, rfl⟩ := hrel
          by_cases hjk : j < g.length
          · have hy : kn[j]? = some (kn[j]'(by rw [HKL.out]; exact hjk)) := List.getElem?_eq_getElem _
            generalize kn[j]'(by rw [HKL.out]; exact hjk) = y at hy
            have hcy := hbo.cell hy
            have HS : Hid (badLeft (kn.drop j) j = if y = false then some j else badLeft (kn.drop (j + 1)) (j + 1)) := by show _ = _; rw [drop_of hy, badLeft]
            have hadr := HAD.out j
            clear hy
            cases y
            · have HNN : Hid (wellG g = ((j : Int), 8)) := by show _ = _; rw [HN.out, <- HJ.out, HS.out, if_pos rfl]
              clear HS
              go_wp2
              go_ret2
              exact ⟨by rw [HNN.out]; rfl, hbel3⟩
            · have HNN : Hid (badLeft (kn.drop (j + 1)) (j + 1) = badLeft kn 0) := by show _ = _; rw [<- HJ.out, HS.out, if_neg (by decide)]
              clear HS
              go_wp2
              go_roundw
              case rel => exact ⟨j + 1, by omega, by go_num, HNN, trivial⟩
              case measure => simp [intOf]; omega
          · obtain rfl : j = g.length := by omega
            have HNN : Hid (wellG g = (0, 0)) := by show _ = _; rw [HN.out, <- HJ.out, List.drop_eq_nil_of_le (by rw [HKL.out]; exact Nat.le_refl _), badLeft]
            go_wp2
            go_ret2
            exact ⟨by rw [HNN.out]; rfl, hbel3⟩
  · have HW0 : Hid (wellG g = (0, checkG g)) := if_pos h0
    have hxb : (checkG g != 0) = true := by rw [bne_iff_ne]; exact h0
    generalize checkG g = x at hxb HCK HW0
    go_enter Tryd.func25, Tryd.ntmps25
    go_wp2_with fail
    refine (HCK.out _ bl).mono ?_
    rintro e w1 ⟨rfl, hb1⟩
    have hw1 : Below w.heap.size w w1 := ((Below.refl _ w).alloc (Nat.le_refl _) _).trans (hb1.mono (by simp))
    clear hb1 hbg
    go_wp2
    go_ret2
    exact ⟨by rw [HW0.out]; rfl, hw1⟩
def lookG (g : List Rl) (s : ByteArray) : Int := if (wellG g).2 ≠ 0 then (wellG g).2 else if 60 < s.size then 2 else 0
theorem mlook_any {g : List Rl} {A : Option Addr} {cp : Nat} {row : Nat -> List Value} {w : World} (h : GrIs w w.heap.size g A cp row) (s : ByteArray) :
    Calls Tryd.prog 51 #[.agg #[.slice A g.length cp], .string s] w fun e w' => e = .returned (.int .i64 (lookG g s)) /\ Below w.heap.size w w' := by
  have hck := fun W (hW : Below w.heap.size w W) => well_any ((h.on hW).more hW.size)
  have HCK := Lib.hid hck
  have HL : Hid (lookG g s = if (wellG g).2 ≠ 0 then (wellG g).2 else if 60 < s.size then 2 else 0) := rfl
  clear hck h
  unfold WellQ at HCK
  generalize wellG g = r at HCK HL
  obtain ⟨i, x⟩ := r
  by_cases hx : x = 0
  · subst hx
    by_cases h60 : 60 < s.size
    · have HN : Hid (lookG g s = 2) := by show _ = _; rw [HL.out, if_neg (by simp), if_pos h60]
      go_enter Tryd.func51, Tryd.ntmps51
      go_wp2_with fail
      refine (HCK.out _ bl).mono ?_
      rintro e w1 ⟨rfl, hb1⟩
      have hw1 : Below w.heap.size w w1 := ((Below.refl _ w).alloc (Nat.le_refl _) _).trans (hb1.mono (by simp))
      clear hb1
      go_wp2
      go_ret
      exact ⟨ret_int HN.out.symm, hw1⟩
    · have HN : Hid (lookG g s = 0) := by show _ = _; rw [HL.out, if_neg (by simp), if_neg h60]
      go_enter Tryd.func51, Tryd.ntmps51
      go_wp2_with fail
      refine (HCK.out _ bl).mono ?_
      rintro e w1 ⟨rfl, hb1⟩
      have hw1 : Below w.heap.size w w1 := ((Below.refl _ w).alloc (Nat.le_refl _) _).trans (hb1.mono (by simp))
      clear hb1
      go_wp2
      go_ret
      exact ⟨ret_int HN.out.symm, hw1⟩
  · have hxb : (x != 0) = true := by rw [bne_iff_ne]; exact hx
    have HN : Hid (lookG g s = x) := by show _ = _; rw [HL.out, if_pos hx]
    clear hx
    go_enter Tryd.func51, Tryd.ntmps51
    go_wp2_with fail
    refine (HCK.out _ bl).mono ?_
    rintro e w1 ⟨rfl, hb1⟩
    have hw1 : Below w.heap.size w w1 := ((Below.refl _ w).alloc (Nat.le_refl _) _).trans (hb1.mono (by simp))
    clear hb1
    go_wp2
    go_ret
    exact ⟨ret_int HN.out.symm, hw1⟩
theorem nodesAll_mem : ∀ {ks : List Ex} {e : Ex}, e ∈ ks -> nodes e <= nodesAll ks
  | _ :: _, _, h => by
    rw [nodesAll]
    rcases List.mem_cons.1 h with rfl | h
    · omega
    · have := nodesAll_mem h; omega
theorem countK_any (e : Ex) : ∀ (cs : List Value) (w : World), ExIs w w.heap.size e cs -> nodes e <= 1000000000000 ->
    Calls Tryd.prog 82 #[.agg cs.toArray] w fun e' w' => e' = .returned (.int .i64 (nodes e)) /\ Below w.heap.size w w' := by
  refine Ex.ind (P := fun e => ∀ (cs : List Value) (w : World), ExIs w w.heap.size e cs -> nodes e <= 1000000000000 ->
    Calls Tryd.prog 82 #[.agg cs.toArray] w fun e' w' => e' = .returned (.int .i64 (nodes e)) /\ Below w.heap.size w w') ?_ e
  intro k a b c d t ks ih cs w hE h60
  obtain ⟨ht, KA, kcp, rfl, hkc, hkm, _⟩ := hE.shape
  unfold exCells
  rw [nodes] at h60
  have hlo := fun (j : Nat) (k' a' b' c' d' : Int) (t' : ByteArray) (ks' : List Ex) (A' : Option Addr) (cp' : Nat) (W : World) (hW : Below w.heap.size w W) (hj : ks[j]? = some (.mk k' a' b' c' d' t' ks'))
      (hE' : ExIs W w.heap.size (.mk k' a' b' c' d' t' ks') (exCells k' a' b' c' d' t' A' ks'.length cp')) =>
    ih _ (List.mem_of_getElem? hj) _ W (hE'.keep hW.size fun _ _ => rfl) (by have := nodesAll_mem (List.mem_of_getElem? hj); omega)
  unfold exCells at hlo
  have HLO := Lib.hid hlo
  have HE := Lib.hid hE
  have HX : Hid (1 + nodesAll ks = nodes (.mk k a b c d t ks)) := by show _ = _; rw [nodes]
  generalize nodes (.mk k a b c d t ks) = N at HX
  have hm8 : ks.length <= 9223372036854775807 := by unfold maxLen at hkm; omega
  have hN : N <= 1000000000000 := by have := HX.out; omega
  clear hlo ih hE h60
  go_enter Tryd.func82, Tryd.ntmps82
  go_wp2
  go_loopw [3, 9] (fun n i wr => ∃ j q : Nat, j <= ks.length /\ i = .int .i64 j /\ n = .int .i64 q /\ Hid (q + nodesAll (ks.drop j) = N) /\ Below w.heap.size w wr) (fun _ i _ => ks.length - (intOf i).toNat)
  case atStart => exact ⟨0, 1, by omega, rfl, rfl, HX, bl⟩
  case round =>
    obtain ⟨j, q, hj, rfl, rfl, HR, hbel⟩ := hrel
    have hz := hbel.size
    by_cases hjk : j < ks.length
    · obtain ⟨ad, k', a', b', c', d', t', ks', A', cp', rfl, hab, hej, hE', ⟨e0, e1, e2, e3, e4, e5, e6⟩⟩ := (HE.out.on hbel).kid hjk
      have hcall := fun W (hW : Below w.heap.size wr W) => HLO.out j k' a' b' c' d' t' ks' A' cp' W (hbel.trans hW) hej (hE'.on hW)
      have HC := Lib.hid hcall
      have HD := Lib.hid (drop_of hej)
      have hq : q + nodes (.mk k' a' b' c' d' t' ks') + nodesAll (ks.drop (j + 1)) = N := by rw [<- HR.out, HD.out, nodesAll]; omega
      generalize nodes (.mk k' a' b' c' d' t' ks') = z at HC hq
      have hqz : q + z <= 1000000000000 := by omega
      have HQ := Lib.hid hq
      clear hcall hej hE' hq
      go_wp2_with fail
      refine (HC.out _ bl).mono ?_
      rintro e w2 ⟨rfl, hb2⟩
      have hbel2 : Below w.heap.size w w2 := (hbel.alloc hz _).trans (hb2.mono (by simp; omega))
      clear hb2
      go_wp2
      go_roundw
      case rel => exact ⟨j + 1, q + z, by omega, by go_num, by go_num, HQ, hbel2⟩
      case measure => simp [intOf]; omega
    · obtain rfl : j = ks.length := by omega
      have hq : q = N := by rw [<- HR.out, List.drop_length, nodesAll]; rfl
      subst hq
      go_wp2
      go_ret
      exact ⟨rfl, hbel⟩
end Go.Proofs.YtndhbdbfjkmloaaDoor
namespace Go.Proofs.YtndhbdbfjkmloaaDoor
set_option maxRecDepth 100000
open Go.RowKit Go.Maps
theorem keyOf_two {P : Program} {k t : TypeId} {q : IntKind}
    (h : (match P.underlying k with | some (.struct fs) => decide (fs.toList.map (fun f => (f.type, f.offset)) = [(t, 0), (t, 1)]) && fs.all (·.name != "_") | _ => false) = true)
    (hc : P.cellsOf k = 2) (hk : P.keyType k = true) (ht : P.underlying t = some (.int q)) (hct : P.cellsOf t = 1) (hsz : 0 < P.types.size) {a b : Int} (ha : (Lit.int q a).wf = true) (hb : (Lit.int q b).wf = true) :
    keyOf P k (.agg #[.int q a, .int q b]) = some (.string (keyBytes [.int q a, .int q b])) := by
  cases hu : P.underlying k with
  | none => rw [hu] at h; cases h
  | some u =>
    rw [hu] at h
    cases u with
    | struct fs =>
      simp only [Bool.and_eq_true, decide_eq_true_eq] at h
      obtain ⟨h1, h2⟩ := h
      have hf : (Value.agg #[.int q a, .int q b]).formed P k = true := by simp [Value.formed, hu, hc]
      have hl : P.keyLits (P.types.size + 1) k [.int q a, .int q b] = some [.int q a, .int q b] := by
        obtain ⟨m, hm⟩ : ∃ m, P.types.size = m + 1 := ⟨P.types.size - 1, by omega⟩
        rw [hm]
        have hi : ∀ c : Int, (Lit.int q c).wf = true -> P.keyLits (m + 1) t [.int q c] = some [.int q c] := by
          intro c hc
          simp [Program.keyLits, ht, hc]
        rw [Program.keyLits.eq_def]
        simp only [hu]
        rw [if_pos ⟨by simp [hc], h2⟩]
        cases hfs : fs.toList with
        | nil => rw [hfs] at h1; cases h1
        | cons f1 r =>
          cases r with
          | nil => rw [hfs] at h1; simp at h1
          | cons f2 r =>
            rw [hfs] at h1
            simp only [List.map_cons, List.cons.injEq, Prod.mk.injEq, List.map_eq_nil_iff] at h1
            obtain ⟨⟨a1, a2⟩, ⟨b1, b2⟩, rfl⟩ := h1
            simp [a1, a2, b1, b2, hct, hi a ha, hi b hb]
      unfold keyOf
      rw [hu]
      simp only [hk, hf, Bool.and_self, if_true]
      show Option.map _ (P.keyLits (P.types.size + 1) k [.int q a, .int q b]) = _
      rw [hl]
      rfl
    | _ => cases h
set_option maxRecDepth 100000
theorem laid_out : laidOutB Tryd.prog = true := by kernel_rfl
theorem key_wide : (match Tryd.prog.underlying 145 with | some (.array _ _) | some (.struct _) => true | _ => false) = true := by kernel_rfl
theorem key_row : (145 : TypeId) < Tryd.prog.types.size := of_decide_eq_true (by kernel_rfl)
theorem key_deep : Tryd.prog.keyTypeAt 2 145 = true := by kernel_rfl
theorem key_law0 : WideMaps.KeyLaw Tryd.prog 145 := deep_law_laid laid_out (m := 2) (by omega) key_row key_deep key_wide
theorem key_law : Keyed Tryd.prog 145 := Keyed.of_law key_law0
theorem map_und : Tryd.prog.underlying 138 = some (.map 145 101) := by kernel_rfl
theorem out_zero (w : World) : (zeroValue 101).run Tryd.prog w = .ok (.agg #[.bool false, .int .i64 0]) w := by kernel_rfl
def keyV (i p : Nat) : Value := .agg #[.int .i64 i, .int .i64 p]
def keyL (i p : Nat) : Lit := .string (keyBytes [.int .i64 i, .int .i64 p])
def big : Nat := 1000000000000
theorem key_of {i p : Nat} (hi : i <= big) (hp : p <= big) : keyOf Tryd.prog 145 (keyV i p) = some (keyL i p) := by
  unfold big at hi hp
  exact keyOf_two (t := 3) (by kernel_rfl) (by kernel_rfl) (by kernel_rfl) (by kernel_rfl) (by kernel_rfl) (of_decide_eq_true (by kernel_rfl)) (WalkArith.wf_i64 (by omega)) (WalkArith.wf_i64 (by omega))
theorem key_ne {i p i' p' : Nat} (hi : i <= big) (hp : p <= big) (hi' : i' <= big) (hp' : p' <= big) (h : (i, p) ≠ (i', p')) : keyL i p ≠ keyL i' p' := by
  intro he
  have h1 := key_of hi hp
  rw [he] at h1
  have h2 := key_law.inj h1 (key_of hi' hp')
  unfold keyV at h2
  simp at h2
  exact h (by rw [Int.ofNat.inj h2.1, Int.ofNat.inj h2.2])
def outV : Option Nat -> Value
  | none => .agg #[.bool false, .int .i64 0]
  | some n => .agg #[.bool true, .int .i64 n]
def outR (v : Value) : Option (DataW Unit × List MemPlace) := match v with
  | .agg cs => (match cs.toList with
    | [.bool b, .int .i64 n] => some (.slice [.lit (.bool b), .lit (.int .i64 n)] [], [])
    | _ => none)
  | _ => none
def outD : Option Nat -> DataW Unit
  | none => .slice [.lit (.bool false), .lit (.int .i64 0)] []
  | some n => .slice [.lit (.bool true), .lit (.int .i64 n)] []
theorem outR_V (o : Option Nat) : outR (outV o) = some (outD o, []) := by cases o <;> rfl
theorem outR_inv {v : Value} {o : Option Nat} {ps : List MemPlace} (h : outR v = some (outD o, ps)) : v = outV o := by
  unfold outR at h
  split at h
  · rename_i cs
    split at h
    · rename_i b n hc
      have hcs : cs = #[.bool b, .int .i64 n] := by
        apply Array.toList_inj.1
        rw [hc]
      subst hcs
      cases o <;> (simp [outD] at h; obtain ⟨⟨rfl, rfl⟩, _⟩ := h; rfl)
    · cases h
  · cases h
def Memo (w : World) (M : Nat) (l : List ((Nat × Nat) × Option Nat)) : Prop := ∃ D, w.ownsMap Tryd.prog 145 outR M l.length D /\ IsMap D /\ ∀ i p, i <= big -> p <= big -> has D (keyL i p) = (recall l (i, p)).isSome /\ ∀ o, recall l (i, p) = some o -> D.atKey (keyL i p) (outD none) = outD o
theorem Memo.lt {w : World} {M : Nat} {l : List ((Nat × Nat) × Option Nat)} (h : Memo w M l) : M < w.heap.size := h.choose_spec.1.lt
theorem Memo.kept {w w' : World} {M : Nat} {l : List ((Nat × Nat) × Option Nat)} {r : Option Nat} (h : Memo w M l) (hg : w.grownBy w' r) (hne : some M ≠ r) : Memo w' M l := by
  obtain ⟨D, h1, h2⟩ := h
  exact ⟨D, h1.kept hg hne, h2⟩
theorem memo_made (w : World) : Memo (w.alloc (.map #[] 0)) w.heap.size [] := ⟨.map [], World.ownsMap_made _ _ _ _, isMap_empty, fun i p _ _ => ⟨rfl, fun o h => by cases h⟩⟩
theorem Memo.look {w : World} {M : Nat} {l : List ((Nat × Nat) × Option Nat)} (h : Memo w M l) {i p : Nat} (hi : i <= big) (hp : p <= big) :
    (Instr.lookup 138 (.map (some M)) (.agg #[.int .i64 i, .int .i64 p]) true).run Tryd.prog w = .ok (.tuple #[outV ((recall l (i, p)).getD none), .bool (recall l (i, p)).isSome]) w := by
  obtain ⟨D, h1, h2, h3⟩ := h
  obtain ⟨ha, hb⟩ := h3 i p hi hp
  obtain ⟨v, ps, hrun, hv⟩ := h1.look_ok key_law map_und (out_zero w) (outR_V none) (key_of hi hp)
  rw [show (Instr.lookup 138 (.map (some M)) (.agg #[.int .i64 i, .int .i64 p]) true).run Tryd.prog w = _ from hrun, ha]
  have hvo : v = outV ((recall l (i, p)).getD none) := by
    cases hr : recall l (i, p) with
    | none =>
      rw [hr] at ha
      rw [atKey_of_not_has ha] at hv
      exact outR_inv hv
    | some o =>
      rw [hb o hr] at hv
      exact outR_inv hv
  rw [hvo]
theorem Memo.put {w : World} {M : Nat} {l : List ((Nat × Nat) × Option Nat)} (h : Memo w M l) (hl : l.length < maxLen) {i p : Nat} (hi : i <= big) (hp : p <= big) (hn : recall l (i, p) = none) (o : Option Nat) :
    ∃ w', (Instr.mapUpdate 138 (.map (some M)) (.agg #[.int .i64 i, .int .i64 p]) (outV o)).run Tryd.prog w = .ok () w' /\ Memo w' M (l ++ [((i, p), o)]) /\ w.grownBy w' (some M) := by
  obtain ⟨D, h1, h2, h3⟩ := h
  obtain ⟨w', hrun, r1, r2⟩ := h1.update key_law map_und hl (key_of hi hp) (outR_V o)
  refine ⟨w', hrun, ⟨D.put (keyL i p) (outD o), by simpa using r1, h2.put _ _, fun j q hj hq => ?_⟩, r2⟩
  rw [recall_app]
  by_cases he : (i, p) = (j, q)
  · injection he with e1 e2
    subst e1 e2
    rw [hn]
    simp only [Option.isSome_none, Bool.false_eq_true, if_false, if_true]
    refine ⟨has_put_same h2 (key_law.key (key_of hi hp)) _, fun o' ho => ?_⟩
    injection ho with ho
    subst ho
    exact atKey_put_same h2 (key_law.key (key_of hi hp)) _ _
  · have hne : keyL j q ≠ keyL i p := key_ne hj hq hi hp (fun e => he e.symm)
    rw [has_put_other hne, atKey_put_other hne, (h3 j q hj hq).1]
    cases hr : recall l (j, q) with
    | some o' =>
      simp only [Option.isSome_some, if_true]
      exact ⟨trivial, fun o'' ho => (h3 j q hj hq).2 o'' (by rw [hr]; exact ho)⟩
    | none =>
      simp only [Option.isSome_none, Bool.false_eq_true, if_false]
      rw [if_neg he]
      exact ⟨rfl, fun o'' ho => by cases ho⟩
end Go.Proofs.YtndhbdbfjkmloaaDoor
