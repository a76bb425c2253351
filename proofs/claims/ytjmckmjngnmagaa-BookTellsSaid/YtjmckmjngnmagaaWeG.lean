/- What well.sound answers; well.grow of bools. -/
import Derived.Test.YtjmckmjngnmagaaWeF
namespace Go.Proofs.Ytjmckmjngnmagaa
open Go.RowKit

def bools (l : List Bool) : List Value := l.map Value.bool
theorem reads_bool {w : World} {B n i : Nat} {A : Option Addr} {l : List Bool} (h : Reads w B 1 A n (bools l)) (hi : i < n) : ∃ ad b, A = some ad ∧ ad.block < B ∧ l[i]? = some b ∧ w.cell? (ad.add i) = some (.bool b) := by
  obtain ⟨ad, u, e, hb, hx, hc⟩ := h.at_ hi
  simp only [bools, List.getElem?_map, Option.map_eq_some_iff] at hx
  obtain ⟨b, hs, rfl⟩ := hx
  exact ⟨ad, b, e, hb, hs, hc⟩

/-- what a call of well.sound leaves -/
def SoQ (x : Bool) (w : World) (e : Ending) (w' : World) : Prop := e = .returned (.bool x) ∧ Below w.heap.size w w'

set_option maxRecDepth 100000 in
set_option maxHeartbeats 8000000 in
theorem sound_any {g : List Rl} {fs : List Fa} {kn : List Bool} {A FA KA : Option Addr} {cp fcp kcp : Nat} {row : Nat → List Value} (hlen : fs.length = g.length) (hkn : kn.length = g.length) (e : Ex) : ∀ (cs : List Value) (w : World), GrIs w w.heap.size g A cp row → Reads w w.heap.size 3 FA fs.length (facs fs) →
    Reads w w.heap.size 1 KA kn.length (bools kn) → ExIs w w.heap.size e cs → Rt g e → Calls Try.prog 58 #[.agg #[.slice A g.length cp], .slice FA fs.length fcp, .slice KA kn.length kcp, .agg cs.toArray] w (SoQ (soundE g fs kn e) w) := by
  refine Ex.ind (P := fun e => ∀ (cs : List Value) (w : World), GrIs w w.heap.size g A cp row → Reads w w.heap.size 3 FA fs.length (facs fs) →
    Reads w w.heap.size 1 KA kn.length (bools kn) → ExIs w w.heap.size e cs → Rt g e → Calls Try.prog 58 #[.agg #[.slice A g.length cp], .slice FA fs.length fcp, .slice KA kn.length kcp, .agg cs.toArray] w (SoQ (soundE g fs kn e) w)) ?_ e
  intro k a b c d t ks ih cs w hG hF hN hE hR
  cases hR with
  | mk _ _ _ _ _ _ _ hfit hname hkids =>
  obtain ⟨ht, EA, ecp, rfl, hkc, hkm, _⟩ := hE.shape
  unfold exCells
  have hof := fun (j : Nat) (k' a' b' c' d' : Int) (t' : ByteArray) (ks' : List Ex) (A' : Option Addr) (cp' : Nat) (W : World) (hW : Below w.heap.size w W) (hj : ks[j]? = some (.mk k' a' b' c' d' t' ks'))
      (hE' : ExIs W w.heap.size (.mk k' a' b' c' d' t' ks') (exCells k' a' b' c' d' t' A' ks'.length cp')) =>
    of_any (fcp := fcp) hlen _ _ W ((hG.on hW).more hW.size) ((hF.below hW).more hW.size) (hE'.keep hW.size fun _ _ => rfl) (hkids _ (List.mem_of_getElem? hj))
  have hso := fun (j : Nat) (k' a' b' c' d' : Int) (t' : ByteArray) (ks' : List Ex) (A' : Option Addr) (cp' : Nat) (W : World) (hW : Below w.heap.size w W) (hj : ks[j]? = some (.mk k' a' b' c' d' t' ks'))
      (hE' : ExIs W w.heap.size (.mk k' a' b' c' d' t' ks') (exCells k' a' b' c' d' t' A' ks'.length cp')) =>
    ih _ (List.mem_of_getElem? hj) _ W ((hG.on hW).more hW.size) ((hF.below hW).more hW.size) ((hN.below hW).more hW.size) (hE'.keep hW.size fun _ _ => rfl) (hkids _ (List.mem_of_getElem? hj))
  unfold exCells at hof hso
  have HOF := Lib.hid hof
  have HSO := Lib.hid hso
  have HE := Lib.hid hE
  have HLEN := Lib.hid hlen
  have HKN := Lib.hid hkn
  have HG := Lib.hid hG
  have HN := Lib.hid hN
  have hfc := fit_cases hfit
  have h8 : ks.length ≤ 8 := by omega
  have hm8 : ks.length ≤ 9223372036854775807 := by omega
  have H8 := Lib.hid h8
  have hbox : Box2 A EA g.length cp ks.length ecp k a b c d t w ((w.alloc (.cells #[.slice A g.length cp] 24)).alloc (.cells #[.int .i64 k, .int .u64 a, .int .u64 b, .int .u64 c, .int .u64 d, .string t, .slice EA ks.length ecp] 35)) := ⟨(by repeat (first | exact Below.refl _ _ | assumption | refine Below.drew ?_ | refine below_drewN ?_ _ | refine Below.alloc ?_ (by first | omega | (simp; omega) | simp) _ | refine Below.setCell ?_ (by first | omega | (simp; omega) | simp) _)), (blk_at rfl).alloc _, blk_at (by simp)⟩
  clear hof hso ih hF hE hkids hfit hfc h8
  by_cases h4 : k = 4
  · subst h4
    have hz4 : ((4 : Int) == 4) = true := rfl
    obtain ⟨i, hi⟩ := Int.eq_ofNat_of_zero_le (hname rfl)
    have hil : i < kn.length := by have := (fndFrom_le g t.data.toList 0).2; rw [hkn]; unfold fnd at hi; omega
    have hfd := fun W (hW : Below w.heap.size w W) => find_any ((hG.on hW).more hW.size) t
    rw [hi] at hfd
    have HX : Hid (soundE g fs kn (.mk 4 a b c d t ks) = (kn.getD i false)) := by show _ = _; rw [soundE, if_pos rfl, hi]; rfl
    have HFD := Lib.hid hfd
    have HI := Lib.hid hi
    clear hfd hname hi hG hN hlen hkn HOF HSO
    have hi0 : (0 : Int) ≤ (i : Int) := by omega
    have hi1 : (i : Int) < (kn.length : Int) := by omega
    go_enter Try.func58, Try.ntmps58
    go_wp2_with fail
    refine (HFD.out _ hbox.bel).mono ?_
    rintro e w1 ⟨rfl, hb1⟩
    have hw1 := hbox.step hb1 (Nat.le_refl _)
    have hbel := hw1.bel
    obtain ⟨ad, b0, rfl, hab, hb0, hc0⟩ := reads_bool (HN.out.below hbel) hil
    have HXX : Hid (soundE g fs kn (.mk 4 a b c d t ks) = b0) := by show _ = _; rw [HX.out, List.getD_eq_getElem?_getD, hb0]; rfl
    clear hb1 hbox hb0
    go_wp2
    go_ret
    exact ⟨ret_bool HXX.out.symm, hbel⟩
  have hz4 : (k == 4) = false := by rw [beq_eq_false_iff_ne]; exact h4
  clear hname hG hN hlen hkn
  by_cases h5 : k = 5
  · have hz5 : (k == 5) = true := by rw [beq_iff_eq]; exact h5
    have HX : Hid (soundS g fs kn (ks.drop 0) = soundE g fs kn (.mk k a b c d t ks)) := by show _ = _; rw [soundE, if_neg h4, if_pos h5]; rfl
    clear h4 h5
    go_enter Try.func58, Try.ntmps58
    go_wp2
    go_loopw [10, 29] (fun _ i wr => ∃ j : Nat, j ≤ ks.length ∧ i = .int .i64 j ∧ Hid (soundS g fs kn (ks.drop j) = soundE g fs kn (.mk k a b c d t ks)) ∧ Box2 A EA g.length cp ks.length ecp k a b c d t w wr) (fun _ i _ => ks.length - (intOf i).toNat)
    case atStart => exact ⟨0, by omega, rfl, HX, hbox⟩
    case round =>
      clear HX hbox
      obtain ⟨j, hj, rfl, HR, hwr⟩ := hrel
      have hbel := hwr.bel
      have hz := hbel.size
      have q0 : wr.cell? ⟨w.heap.size, 0, none⟩ = some (.slice A g.length cp) := hwr.x3.cell 0
      have hl3 := hwr.x3.lt
      by_cases hjk : j < ks.length
      · obtain ⟨ad, k', a', b', c', d', t', ks', A', cp', rfl, hab, hej, hE', ⟨e0, e1, e2, e3, e4, e5, e6⟩⟩ := (HE.out.on hbel).kid hjk
        have hcall := fun W (hW : Below w.heap.size wr W) => HSO.out j k' a' b' c' d' t' ks' A' cp' W (hbel.trans hW) hej (hE'.on hW)
        have hcall2 := fun W (hW : Below w.heap.size wr W) => HOF.out j k' a' b' c' d' t' ks' A' cp' W (hbel.trans hW) hej (hE'.on hW)
        have HC := Lib.hid hcall
        have HC2 := Lib.hid hcall2
        have HD := Lib.hid (drop_of hej)
        have HRS : Hid (soundS g fs kn (ks.drop j) = if soundE g fs kn (.mk k' a' b' c' d' t' ks') = false then false else if (ofE g fs (.mk k' a' b' c' d' t' ks')).e = false then true else soundS g fs kn (ks.drop (j + 1))) := by show _ = _; rw [HD.out, soundS]
        generalize soundE g fs kn (.mk k' a' b' c' d' t' ks') = z at HC HRS
        generalize ofE g fs (.mk k' a' b' c' d' t' ks') = x at HC2 HRS
        clear hcall hcall2 hej hE'
        go_wp2_with fail
        refine (HC.out _ (by repeat (first | exact Below.refl _ _ | assumption | refine Below.drew ?_ | refine below_drewN ?_ _ | refine Below.alloc ?_ (by first | omega | (simp; omega) | simp) _ | refine Below.setCell ?_ (by first | omega | (simp; omega) | simp) _))).mono ?_
        rintro e w2 ⟨rfl, hb2⟩
        have hw2 := (hwr.alloc _).step hb2 (Nat.le_refl _)
        have hbel2 := hw2.bel
        have hr2 : Below w.heap.size wr w2 := Below.trans (by repeat (first | exact Below.refl _ _ | assumption | refine Below.drew ?_ | refine below_drewN ?_ _ | refine Below.alloc ?_ (by first | omega | (simp; omega) | simp) _ | refine Below.setCell ?_ (by first | omega | (simp; omega) | simp) _)) (hb2.mono (by first | omega | (simp; omega) | simp))
        have hbx : Blk w2 wr.heap.size 35 #[.int .i64 k', .int .u64 a', .int .u64 b', .int .u64 c', .int .u64 d', .string t', .slice A' ks'.length cp'] := (blk_at rfl).below hb2 (by simp)
        have q2 : w2.cell? ⟨w.heap.size, 0, none⟩ = some (.slice A g.length cp) := hw2.x3.cell 0
        have x0 : w2.cell? ⟨wr.heap.size, 0, none⟩ = some (.int .i64 k') := hbx.cell 0; have x1 : w2.cell? ⟨wr.heap.size, 1, none⟩ = some (.int .u64 a') := hbx.cell 1; have x2 : w2.cell? ⟨wr.heap.size, 2, none⟩ = some (.int .u64 b') := hbx.cell 2; have x3 : w2.cell? ⟨wr.heap.size, 3, none⟩ = some (.int .u64 c') := hbx.cell 3; have x4 : w2.cell? ⟨wr.heap.size, 4, none⟩ = some (.int .u64 d') := hbx.cell 4; have x5 : w2.cell? ⟨wr.heap.size, 5, none⟩ = some (.string t') := hbx.cell 5; have x6 : w2.cell? ⟨wr.heap.size, 6, none⟩ = some (.slice A' ks'.length cp') := hbx.cell 6
        clear hb2 hwr
        cases z
        · have HNN : Hid (soundE g fs kn (.mk k a b c d t ks) = false) := by show _ = _; rw [← HR.out, HRS.out, if_pos rfl]
          clear HRS
          go_wp2
          go_ret
          exact ⟨ret_bool HNN.out.symm, hbel2⟩
        · have hfe := run_empty x.e x.a x.f
          go_wp2_with fail
          refine (HC2.out _ hr2).mono ?_
          rintro e w3 ⟨rfl, hb3⟩
          have hw3 := hw2.step hb3 (Nat.le_refl _)
          have hbel3 := hw3.bel
          clear hb3 hw2 hbx x0 x1 x2 x3 x4 x5 x6 q2
          cases hxe : x.e
          · have HNN : Hid (soundE g fs kn (.mk k a b c d t ks) = true) := by show _ = _; rw [← HR.out, HRS.out, if_neg (by decide), if_pos hxe]
            rw [hxe] at hfe
            clear HRS hxe
            go_wp2
            go_ret
            exact ⟨ret_bool HNN.out.symm, hbel3⟩
          · have HNN : Hid (soundS g fs kn (ks.drop (j + 1)) = soundE g fs kn (.mk k a b c d t ks)) := by show _ = _; rw [← HR.out, HRS.out, if_neg (by decide), if_neg (by rw [hxe]; decide)]
            rw [hxe] at hfe
            clear HRS hxe
            go_wp2
            go_roundw
            case rel => exact ⟨j + 1, by omega, by go_num, HNN, hw3⟩
            case measure => simp [intOf]; omega
      · obtain rfl : j = ks.length := by omega
        have HNN : Hid (soundE g fs kn (.mk k a b c d t ks) = true) := by show _ = _; rw [← HR.out, List.drop_length, soundS]
        go_wp2
        go_ret
        exact ⟨ret_bool HNN.out.symm, hbel⟩
  have hz5 : (k == 5) = false := by rw [beq_eq_false_iff_ne]; exact h5
  have HX : Hid (soundA g fs kn (ks.drop 0) = soundE g fs kn (.mk k a b c d t ks)) := by show _ = _; rw [soundE, if_neg h4, if_neg h5]; rfl
  clear h4 h5 HOF
  go_enter Try.func58, Try.ntmps58
  go_wp2
  go_loopw [12, 49] (fun _ i wr => ∃ j : Nat, j ≤ ks.length ∧ i = .int .i64 j ∧ Hid (soundA g fs kn (ks.drop j) = soundE g fs kn (.mk k a b c d t ks)) ∧ Box2 A EA g.length cp ks.length ecp k a b c d t w wr) (fun _ i _ => ks.length - (intOf i).toNat)
  case atStart => exact ⟨0, by omega, rfl, HX, hbox⟩
  case round =>
    clear HX hbox
    obtain ⟨j, hj, rfl, HR, hwr⟩ := hrel
    have hbel := hwr.bel
    have hz := hbel.size
    have q0 : wr.cell? ⟨w.heap.size, 0, none⟩ = some (.slice A g.length cp) := hwr.x3.cell 0
    have hl3 := hwr.x3.lt
    by_cases hjk : j < ks.length
    · obtain ⟨ad, k', a', b', c', d', t', ks', A', cp', rfl, hab, hej, hE', ⟨e0, e1, e2, e3, e4, e5, e6⟩⟩ := (HE.out.on hbel).kid hjk
      have hcall := fun W (hW : Below w.heap.size wr W) => HSO.out j k' a' b' c' d' t' ks' A' cp' W (hbel.trans hW) hej (hE'.on hW)
      have HC := Lib.hid hcall
      have HD := Lib.hid (drop_of hej)
      have HRS : Hid (soundA g fs kn (ks.drop j) = if soundE g fs kn (.mk k' a' b' c' d' t' ks') = false then false else soundA g fs kn (ks.drop (j + 1))) := by show _ = _; rw [HD.out, soundA]
      generalize soundE g fs kn (.mk k' a' b' c' d' t' ks') = z at HC HRS
      clear hcall hej hE'
      go_wp2_with fail
      refine (HC.out _ (by repeat (first | exact Below.refl _ _ | assumption | refine Below.drew ?_ | refine below_drewN ?_ _ | refine Below.alloc ?_ (by first | omega | (simp; omega) | simp) _ | refine Below.setCell ?_ (by first | omega | (simp; omega) | simp) _))).mono ?_
      rintro e w2 ⟨rfl, hb2⟩
      have hw2 := (hwr.alloc _).step hb2 (Nat.le_refl _)
      have hbel2 := hw2.bel
      clear hb2 hwr
      cases z
      · have HNN : Hid (soundE g fs kn (.mk k a b c d t ks) = false) := by show _ = _; rw [← HR.out, HRS.out, if_pos rfl]
        clear HRS
        go_wp2
        go_ret
        exact ⟨ret_bool HNN.out.symm, hbel2⟩
      · have HNN : Hid (soundA g fs kn (ks.drop (j + 1)) = soundE g fs kn (.mk k a b c d t ks)) := by show _ = _; rw [← HR.out, HRS.out, if_neg (by decide)]
        clear HRS
        go_wp2
        go_roundw
        case rel => exact ⟨j + 1, by omega, by go_num, HNN, hw2⟩
        case measure => simp [intOf]; omega
    · obtain rfl : j = ks.length := by omega
      have HNN : Hid (soundE g fs kn (.mk k a b c d t ks) = true) := by show _ = _; rw [← HR.out, List.drop_length, soundA]
      go_wp2
      go_ret
      exact ⟨ret_bool HNN.out.symm, hbel⟩
end Go.Proofs.Ytjmckmjngnmagaa
