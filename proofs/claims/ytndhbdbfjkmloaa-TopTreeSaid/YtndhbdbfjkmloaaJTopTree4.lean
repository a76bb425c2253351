/- What well.of answers. -/
import Derived.Test.YtndhbdbfjkmloaaJTopTree2
namespace Go.Proofs.Ytndhbdbfjkmloaa
open Go.RowKit

theorem fit_cases {k a b c d : Int} {t : List UInt8} {n : Nat} (h : fitB k a b c d t n = true) :
    (k = 1 ∧ n = 0) ∨ (k = 2 ∧ n = 0) ∨ (k = 3 ∧ n = 0 ∧ t ≠ [] ∧ t.length ≤ 12) ∨ (k = 4 ∧ n = 0 ∧ nameB t = true) ∨ (k = 5 ∧ 2 ≤ n ∧ n ≤ 8) ∨ (k = 6 ∧ 2 ≤ n ∧ n ≤ 8) ∨ (7 ≤ k ∧ k ≤ 11 ∧ n = 1) := by
  unfold fitB lims at h
  by_cases h1 : k = 1 ∨ k = 2
  · rw [if_pos h1] at h
    simp at h
    omega
  rw [if_neg h1] at h
  by_cases h3 : k = 3
  · rw [if_pos h3] at h
    by_cases ht : t ≠ [] ∧ t.length ≤ 12
    · rw [if_pos ht] at h
      simp at h
      exact .inr (.inr (.inl ⟨h3, by omega, ht.1, ht.2⟩))
    · rw [if_neg ht] at h
      simp at h
  rw [if_neg h3] at h
  by_cases h4 : k = 4
  · rw [if_pos h4] at h
    by_cases ht : nameB t = true
    · rw [if_pos ht] at h
      simp at h
      exact .inr (.inr (.inr (.inl ⟨h4, by omega, ht⟩)))
    · rw [if_neg ht] at h
      simp at h
  rw [if_neg h4] at h
  by_cases h5 : k = 5 ∨ k = 6
  · rw [if_pos h5] at h
    simp at h
    omega
  rw [if_neg h5] at h
  by_cases h7 : 7 ≤ k ∧ k ≤ 11
  · rw [if_pos h7] at h
    simp at h
    omega
  · rw [if_neg h7] at h
    simp at h

/-- the boxes of a call of well.of -/
structure OfBox (A FA KA : Option Addr) (m cp n fcp kn kcp : Nat) (k a b c d : Int) (t : ByteArray) (w W : World) : Prop where
  bel : Below w.heap.size w W
  x3 : Blk W w.heap.size 35 #[.slice A m cp]
  x4 : Blk W (w.heap.size + 1) 112 #[.slice FA n fcp]
  x5 : Blk W (w.heap.size + 1 + 1) 27 #[.int .i64 k, .int .u64 a, .int .u64 b, .int .u64 c, .int .u64 d, .string t, .slice KA kn kcp]
  x6 : Blk W (w.heap.size + 1 + 1 + 1) 137 #[.bool false, .bool false, .bool false]
section
variable {A FA KA : Option Addr} {m cp n fcp kn kcp : Nat} {k a b c d : Int} {t : ByteArray} {w W W' : World}
theorem OfBox.step (h : OfBox A FA KA m cp n fcp kn kcp k a b c d t w W) {B : Nat} (hb : Below B W W') (hB : W.heap.size ≤ B) : OfBox A FA KA m cp n fcp kn kcp k a b c d t w W' :=
  have hb' := hb.mono hB
  ⟨h.bel.trans (hb'.mono h.bel.size), h.x3.below hb' h.x3.lt, h.x4.below hb' h.x4.lt, h.x5.below hb' h.x5.lt, h.x6.below hb' h.x6.lt⟩
theorem OfBox.alloc (h : OfBox A FA KA m cp n fcp kn kcp k a b c d t w W) (o : Obj) : OfBox A FA KA m cp n fcp kn kcp k a b c d t w (W.alloc o) := h.step ((Below.refl _ _).alloc (Nat.le_refl _) o) (Nat.le_refl _)
theorem OfBox.drew (h : OfBox A FA KA m cp n fcp kn kcp k a b c d t w W) : OfBox A FA KA m cp n fcp kn kcp k a b c d t w W.drew := ⟨h.bel.drew, h.x3, h.x4, h.x5, h.x6⟩
end

theorem OfBox.set {A FA KA : Option Addr} {m cp n fcp kn kcp : Nat} {k a b c d : Int} {t : ByteArray} {w W : World} (h : OfBox A FA KA m cp n fcp kn kcp k a b c d t w W) {p : Addr} (hp : w.heap.size + 1 + 1 + 1 < p.block) (v : Value) : OfBox A FA KA m cp n fcp kn kcp k a b c d t w (W.setCell p v) :=
  ⟨h.bel.setCell (by omega) _, h.x3.far (by omega) _, h.x4.far (by omega) _, h.x5.far (by omega) _, h.x6.far (by omega) _⟩

theorem of_parts {g : List Rl} {kn : List Fa} {x : Fa} {ks : List Ex} (h : (ofEs g kn ks)[0]? = some x) : kid0 (ofEs g kn ks) = x := by
  cases hl : ofEs g kn ks with
  | nil => rw [hl] at h; simp at h
  | cons y ys => rw [hl] at h; simp at h; rw [kid0]; exact h

set_option maxRecDepth 100000 in
set_option maxHeartbeats 8000000 in
theorem of_any {g : List Rl} {fs : List Fa} {A FA : Option Addr} {cp fcp : Nat} {row : Nat → List Value} (hlen : fs.length = g.length) (e : Ex) : ∀ (cs : List Value) (w : World), GrIs w w.heap.size g A cp row → Reads w w.heap.size 3 FA fs.length (facs fs) →
    ExIs w w.heap.size e cs → Rt g e → Calls Try.prog 69 #[.agg #[.slice A g.length cp], .slice FA fs.length fcp, .agg cs.toArray] w (OfQ (ofE g fs e) w) := by
  refine Ex.ind (P := fun e => ∀ (cs : List Value) (w : World), GrIs w w.heap.size g A cp row → Reads w w.heap.size 3 FA fs.length (facs fs) →
    ExIs w w.heap.size e cs → Rt g e → Calls Try.prog 69 #[.agg #[.slice A g.length cp], .slice FA fs.length fcp, .agg cs.toArray] w (OfQ (ofE g fs e) w)) ?_ e
  intro k a b c d t ks ih cs w hG hF hE hR
  cases hR with
  | mk _ _ _ _ _ _ _ hfit hname hkids =>
  obtain ⟨ht, KA, kcp, rfl, hkc, hkm, _⟩ := hE.shape
  unfold exCells
  have hK : ∀ (W : World) (i : Nat) (x : Fa), OfBox A FA KA g.length cp fs.length fcp ks.length kcp k a b c d t w W → (ofEs g fs ks)[i]? = some x →
      Calls Try.prog 82 #[.int .i64 i, .pointer (some ⟨w.heap.size, 0, none⟩), .pointer (some ⟨w.heap.size + 1, 0, none⟩), .pointer (some ⟨w.heap.size + 1 + 1, 0, none⟩)] W (OfQ x W) := by
    intro W i x hW hi
    refine kid_any (kn := fs) (n := fs.length) (fun j k' a' b' c' d' t' ks' A' cp' W' hW' hj hE' => ?_) hE W hW.bel hW.x3 hW.x4 hW.x5 i x hi
    have hmem := List.mem_of_getElem? hj
    exact ih _ hmem _ W' ((hG.on hW').more hW'.size) ((hF.below hW').more hW'.size) (hE'.keep hW'.size fun _ _ => rfl) (hkids _ hmem)
  have HK := Lib.hid hK
  have HO : Hid (∀ i, i < ks.length → ∃ x, (ofEs g fs ks)[i]? = some x) := fun i hi => ⟨_, List.getElem?_eq_getElem (by rw [ofEs_len]; exact hi)⟩
  have HL := Lib.hid (ofEs_len g fs ks)
  clear hK ih hkids
  have hbox : OfBox A FA KA g.length cp fs.length fcp ks.length kcp k a b c d t w ((((w.alloc (.cells #[.slice A g.length cp] 35)).alloc (.cells #[.slice FA fs.length fcp] 112)).alloc (.cells #[.int .i64 k, .int .u64 a, .int .u64 b, .int .u64 c, .int .u64 d, .string t, .slice KA ks.length kcp] 27)).alloc (.cells #[.bool false, .bool false, .bool false] 137)) :=
    ⟨(by repeat (first | exact Below.refl _ _ | assumption | refine Below.drew ?_ | refine below_drewN ?_ _ | refine Below.alloc ?_ (by first | omega | (simp; omega) | simp) _ | refine Below.setCell ?_ (by first | omega | (simp; omega) | simp) _)), (((blk_at rfl).alloc _).alloc _).alloc _, ((blk_at (by simp)).alloc _).alloc _, (blk_at (by simp)).alloc _, blk_at (by simp)⟩
  rcases fit_cases hfit with ⟨rfl, h0⟩ | ⟨rfl, h0⟩ | ⟨rfl, h0, _, _⟩ | ⟨rfl, h0, _⟩ | ⟨rfl, h2, h8⟩ | ⟨rfl, h2, h8⟩ | ⟨h7, h11, h1⟩
  · have HX : Hid (ofE g fs (.mk 1 a b c d t ks) = ⟨true, false, false⟩) := by show _ = _; rw [ofE, if_pos rfl]
    clear hfit hname hbox hE hG hF
    go_enter Try.func69, Try.ntmps69
    go_wp2
    exact bodyPost_ret (v := .agg #[.bool true, .bool false, .bool false]) (by simp [results, Try.results69, go_sem]) rfl ⟨by rw [HX.out], (by repeat (first | exact Below.refl _ _ | assumption | refine Below.drew ?_ | refine below_drewN ?_ _ | refine Below.alloc ?_ (by first | omega | (simp; omega) | simp) _ | refine Below.setCell ?_ (by first | omega | (simp; omega) | simp) _))⟩
  · have hq := fun w => run_same_set w a b c d 0 0 0 0
    have HX : Hid (ofE g fs (.mk 2 a b c d t ks) = ⟨false, !(a == 0 && (b == 0 && (c == 0 && d == 0))), true⟩) := by show _ = _; rw [ofE, if_neg (by decide), if_pos rfl]
    generalize (a == 0 && (b == 0 && (c == 0 && d == 0))) = z at hq HX
    clear hfit hname hbox hE hG hF
    go_enter Try.func69, Try.ntmps69
    go_wp2
    exact bodyPost_ret (v := .agg #[.bool false, .bool (!z), .bool true]) (by simp [results, Try.results69, go_sem]) rfl ⟨by rw [HX.out], (by repeat (first | exact Below.refl _ _ | assumption | refine Below.drew ?_ | refine below_drewN ?_ _ | refine Below.alloc ?_ (by first | omega | (simp; omega) | simp) _ | refine Below.setCell ?_ (by first | omega | (simp; omega) | simp) _))⟩
  · have HX : Hid (ofE g fs (.mk 3 a b c d t ks) = ⟨false, true, true⟩) := by show _ = _; rw [ofE, if_neg (by decide), if_neg (by decide), if_pos rfl]
    clear hfit hname hbox hE hG hF
    go_enter Try.func69, Try.ntmps69
    go_wp2
    exact bodyPost_ret (v := .agg #[.bool false, .bool true, .bool true]) (by simp [results, Try.results69, go_sem]) rfl ⟨by rw [HX.out], (by repeat (first | exact Below.refl _ _ | assumption | refine Below.drew ?_ | refine below_drewN ?_ _ | refine Below.alloc ?_ (by first | omega | (simp; omega) | simp) _ | refine Below.setCell ?_ (by first | omega | (simp; omega) | simp) _))⟩
  · obtain ⟨i, hi⟩ := Int.eq_ofNat_of_zero_le (hname rfl)
    have hil : i < fs.length := by have := (fndFrom_le g t.data.toList 0).2; rw [hlen]; unfold fnd at hi; omega
    have hfd := fun W (hW : Below w.heap.size w W) => find_any ((hG.on hW).more hW.size) t
    rw [hi] at hfd
    obtain ⟨fd, x, rfl, hfb, hxi, hT⟩ := reads_fac hF hil
    have HX : Hid (ofE g fs (.mk 4 a b c d t ks) = x) := by
      show _ = _
      rw [ofE, if_neg (by decide), if_neg (by decide), if_neg (by decide), if_pos rfl, hi]
      simp [List.getD, hxi]
    have HFD := Lib.hid hfd
    have hTT := fun W (hW : Below w.heap.size w W) => hT.keep (w' := W) fun q hq => hW.cell (by rw [hq, add_block]; exact hfb)
    have HT := Lib.hid hTT
    have hx : x.vals = [.bool x.e, .bool x.a, .bool x.f] := rfl
    have HXV := Lib.hid hx
    have hi0 : (0 : Int) ≤ (i : Int) := by omega
    have hi1 : (i : Int) < (fs.length : Int) := by omega
    have HLEN := Lib.hid hlen
    clear hfit hname hE hG hF hT hTT hfd hxi hi hx HK HO HL h0 hlen
    go_enter Try.func69, Try.ntmps69
    go_wp2_with fail
    refine wp_region_tail (C := OfBox A (some fd) KA g.length cp fs.length fcp ks.length kcp 4 a b c d t w) 7 (by kernel_rfl) (by kernel_rfl) hbox.drew ?_
    repeat
      (first | refine wpQuiet_no rfl ?_ | (apply wpQuiet_yes rfl; · (intro W hW; have q1 := hW.x3.cell 0; have q2 := hW.x4.cell 0; have q3 := hW.x5.cell 5; obtain ⟨t0, t1, t2⟩ := HT.out _ hW.bel; go_simp; first | rfl | (go_at_call 51; refine (HFD.out _ hW.bel).mono ?_; exact fun e w' h => ⟨h.1, hW.step h.2 (Nat.le_refl _)⟩)))); (try simp only [Act.put, List.setIfInBounds_toArray, List.set_cons_zero, List.set_cons_succ])
    refine wpQuiet_nil ?_
    intro w1 hw1
    have hbr := hw1.x6
    have z0 : w1.cell? ⟨w.heap.size + 1 + 1 + 1, 0, none⟩ = some (.bool false) := hbr.cell 0; have z1 : w1.cell? ⟨w.heap.size + 1 + 1 + 1, 1, none⟩ = some (.bool false) := hbr.cell 1; have z2 : w1.cell? ⟨w.heap.size + 1 + 1 + 1, 2, none⟩ = some (.bool false) := hbr.cell 2; have f0 := hbr.frozen 0; have f1 := hbr.frozen 1; have f2 := hbr.frozen 2; have e0 : (w1.setCell ⟨w.heap.size + 1 + 1 + 1, 0, none⟩ (.bool x.e)).cell? ⟨w.heap.size + 1 + 1 + 1, 0, none⟩ = some (.bool x.e) := (hbr.set_ 0 _).cell 0; have e1 : ((w1.setCell ⟨w.heap.size + 1 + 1 + 1, 0, none⟩ (.bool x.e)).setCell ⟨w.heap.size + 1 + 1 + 1, 1, none⟩ (.bool x.a)).cell? ⟨w.heap.size + 1 + 1 + 1, 1, none⟩ = some (.bool x.a) := ((hbr.set_ 0 _).set_ 1 _).cell 1; have e2 : (((w1.setCell ⟨w.heap.size + 1 + 1 + 1, 0, none⟩ (.bool x.e)).setCell ⟨w.heap.size + 1 + 1 + 1, 1, none⟩ (.bool x.a)).setCell ⟨w.heap.size + 1 + 1 + 1, 2, none⟩ (.bool x.f)).cell? ⟨w.heap.size + 1 + 1 + 1, 2, none⟩ = some (.bool x.f) := (((hbr.set_ 0 _).set_ 1 _).set_ 2 _).cell 2
    have hbel := hw1.bel
    have hzz := hbel.size
    clear hbr
    simp only [List.drop]
    go_wp2
    exact bodyPost_ret (v := .agg #[.bool x.e, .bool x.a, .bool x.f]) (by simp [results, Try.results69, go_sem, e0, e1, e2]) rfl ⟨by rw [HX.out], (by repeat (first | exact Below.refl _ _ | assumption | refine Below.drew ?_ | refine below_drewN ?_ _ | refine Below.alloc ?_ (by first | omega | (simp; omega) | simp) _ | refine Below.setCell ?_ (by first | omega | (simp; omega) | simp) _))⟩
  · obtain ⟨x0, hx0⟩ := HO.out 0 (by omega)
    have HX0 : Hid (((ofEs g fs ks).drop 1).foldl thenF x0 = ofE g fs (.mk 5 a b c d t ks)) := by
      show _ = _
      rw [ofE, if_neg (by decide), if_neg (by decide), if_neg (by decide), if_neg (by decide), if_pos rfl]
      cases hl : ofEs g fs ks with
      | nil => rw [hl] at hx0; simp at hx0
      | cons y ys => rw [hl] at hx0; simp at hx0; subst hx0; simp [seqF]
    have H8 := Lib.hid h8
    have HLEN := Lib.hid hlen
    have hkm' : ks.length ≤ 9223372036854775807 := by omega
    clear hfit hname hE hG hF h8 hlen
    go_enter Try.func69, Try.ntmps69
    go_wp2_with fail
    refine (HK.out _ 0 x0 hbox hx0).mono ?_
    rintro e w1 ⟨rfl, hb1⟩
    have hw1 := hbox.step hb1 (Nat.le_refl _)
    have hz6 := hw1.x6.lt
    clear hb1 hbox hx0
    go_wp2
    go_loopw [9] (fun i wr => ∃ (j : Nat) (acc : Fa), 1 ≤ j ∧ j ≤ ks.length ∧ i = .int .i64 j ∧ Hid (((ofEs g fs ks).drop j).foldl thenF acc = ofE g fs (.mk 5 a b c d t ks)) ∧ OfBox A FA KA g.length cp fs.length fcp ks.length kcp 5 a b c d t w wr ∧ Blk wr w1.heap.size 137 #[.bool acc.e, .bool acc.a, .bool acc.f]) (fun i _ => ks.length - (intOf i).toNat)
    case atStart => exact ⟨1, x0, by omega, by omega, rfl, HX0, hw1.alloc _, blk_at rfl⟩
    case round =>
      clear HX0 hw1
      obtain ⟨j, acc, hj1, hj, rfl, HR, hwr, hacc⟩ := hrel
      have q6 : wr.cell? ⟨w.heap.size + 1 + 1, 6, none⟩ = some (.slice KA ks.length kcp) := hwr.x5.cell 6
      have hal := hacc.lt
      by_cases hjk : j < ks.length
      · obtain ⟨x, hx⟩ := HO.out j hjk
        have HD := Lib.hid (drop_of hx)
        have HKX : Hid (∀ W, OfBox A FA KA g.length cp fs.length fcp ks.length kcp 5 a b c d t w W → _) := fun W hW => HK.out W j x hW hx
        clear hx
        go_wp2_with fail
        refine wp_region_tail (C := fun W => OfBox A FA KA g.length cp fs.length fcp ks.length kcp 5 a b c d t w W ∧ Blk W w1.heap.size 137 #[.bool acc.e, .bool acc.a, .bool acc.f] ∧ wr.heap.size ≤ W.heap.size) 5 (by kernel_rfl) (by kernel_rfl) ⟨hwr.drew, hacc.drew, by simp⟩ ?_
        clear q6 hwr hacc
        repeat
          (first | refine wpQuiet_no rfl ?_ | (apply wpQuiet_yes rfl; · (intro W hW; obtain ⟨hO, hA, hZ⟩ := hW; have a0 := hA.cell 0; have a1 := hA.cell 1; have a2 := hA.cell 2; go_simp; first | rfl | (go_at_call 82; refine (HKX.out _ hO).mono ?_; exact fun e w' h => ⟨h.1, hO.step h.2 (Nat.le_refl _), hA.below h.2 hA.lt, Nat.le_trans hZ h.2.size⟩) | (go_at_call 83; refine (then_any acc.e acc.a acc.f x.e x.a x.f _).mono ?_; exact fun e w' h => ⟨h.1, hO.step h.2 (Nat.le_refl _), hA.below h.2 hA.lt, Nat.le_trans hZ h.2.size⟩)))); (try simp only [Act.put, List.setIfInBounds_toArray, List.set_cons_zero, List.set_cons_succ])
        refine wpQuiet_nil ?_
        rintro w2 ⟨hO, hA, hZ⟩
        have HY : Hid (((ofEs g fs ks).drop (j + 1)).foldl thenF (thenF acc x) = ofE g fs (.mk 5 a b c d t ks)) := by
          show _ = _
          rw [← HR.out, HD.out, List.foldl_cons]
        have hv : (thenF ⟨acc.e, acc.a, acc.f⟩ ⟨x.e, x.a, x.f⟩).vals.toArray = #[.bool (thenF acc x).e, .bool (thenF acc x).a, .bool (thenF acc x).f] := rfl
        generalize thenF acc x = y at HY hv
        simp only [List.drop, hv]
        have z0 : w2.cell? ⟨w1.heap.size, 0, none⟩ = some (.bool acc.e) := hA.cell 0; have z1 : w2.cell? ⟨w1.heap.size, 1, none⟩ = some (.bool acc.a) := hA.cell 1; have z2 : w2.cell? ⟨w1.heap.size, 2, none⟩ = some (.bool acc.f) := hA.cell 2; have f0 := hA.frozen 0; have f1 := hA.frozen 1; have f2 := hA.frozen 2; have e0 : (w2.setCell ⟨w1.heap.size, 0, none⟩ (.bool y.e)).cell? ⟨w1.heap.size, 0, none⟩ = some (.bool y.e) := (hA.set_ 0 _).cell 0; have e1 : ((w2.setCell ⟨w1.heap.size, 0, none⟩ (.bool y.e)).setCell ⟨w1.heap.size, 1, none⟩ (.bool y.a)).cell? ⟨w1.heap.size, 1, none⟩ = some (.bool y.a) := ((hA.set_ 0 _).set_ 1 _).cell 1; have e2 : (((w2.setCell ⟨w1.heap.size, 0, none⟩ (.bool y.e)).setCell ⟨w1.heap.size, 1, none⟩ (.bool y.a)).setCell ⟨w1.heap.size, 2, none⟩ (.bool y.f)).cell? ⟨w1.heap.size, 2, none⟩ = some (.bool y.f) := (((hA.set_ 0 _).set_ 1 _).set_ 2 _).cell 2
        have hA3 := ((hA.set_ 0 (.bool y.e)).set_ 1 (.bool y.a)).set_ 2 (.bool y.f)
        have hO3 := ((hO.set (p := ⟨w1.heap.size, 0, none⟩) hz6 (.bool y.e)).set (p := ⟨w1.heap.size, 1, none⟩) hz6 (.bool y.a)).set (p := ⟨w1.heap.size, 2, none⟩) hz6 (.bool y.f)
        clear hA hO hv
        go_wp2
        go_roundw
        case rel => exact ⟨j + 1, y, by omega, by omega, by go_num, HY, hO3, hA3⟩
        case measure => simp [intOf]; omega
      · obtain rfl : j = ks.length := by omega
        have HX : Hid (ofE g fs (.mk 5 a b c d t ks) = acc) := by
          show _ = _
          rw [← HR.out, List.drop_eq_nil_of_le (by rw [HL.out]; exact Nat.le_refl _), List.foldl_nil]
        have a0 : wr.cell? ⟨w1.heap.size, 0, none⟩ = some (.bool acc.e) := hacc.cell 0
        have a1 : wr.cell? ⟨w1.heap.size, 1, none⟩ = some (.bool acc.a) := hacc.cell 1
        have a2 : wr.cell? ⟨w1.heap.size, 2, none⟩ = some (.bool acc.f) := hacc.cell 2
        clear hacc
        have hbr := hwr.x6
        have z0 : wr.cell? ⟨w.heap.size + 1 + 1 + 1, 0, none⟩ = some (.bool false) := hbr.cell 0; have z1 : wr.cell? ⟨w.heap.size + 1 + 1 + 1, 1, none⟩ = some (.bool false) := hbr.cell 1; have z2 : wr.cell? ⟨w.heap.size + 1 + 1 + 1, 2, none⟩ = some (.bool false) := hbr.cell 2; have f0 := hbr.frozen 0; have f1 := hbr.frozen 1; have f2 := hbr.frozen 2; have e0 : (wr.setCell ⟨w.heap.size + 1 + 1 + 1, 0, none⟩ (.bool acc.e)).cell? ⟨w.heap.size + 1 + 1 + 1, 0, none⟩ = some (.bool acc.e) := (hbr.set_ 0 _).cell 0; have e1 : ((wr.setCell ⟨w.heap.size + 1 + 1 + 1, 0, none⟩ (.bool acc.e)).setCell ⟨w.heap.size + 1 + 1 + 1, 1, none⟩ (.bool acc.a)).cell? ⟨w.heap.size + 1 + 1 + 1, 1, none⟩ = some (.bool acc.a) := ((hbr.set_ 0 _).set_ 1 _).cell 1; have e2 : (((wr.setCell ⟨w.heap.size + 1 + 1 + 1, 0, none⟩ (.bool acc.e)).setCell ⟨w.heap.size + 1 + 1 + 1, 1, none⟩ (.bool acc.a)).setCell ⟨w.heap.size + 1 + 1 + 1, 2, none⟩ (.bool acc.f)).cell? ⟨w.heap.size + 1 + 1 + 1, 2, none⟩ = some (.bool acc.f) := (((hbr.set_ 0 _).set_ 1 _).set_ 2 _).cell 2
        have hbel := hwr.bel
        have hzz := hbel.size
        clear hbr
        go_wp2
        exact bodyPost_ret (v := .agg #[.bool acc.e, .bool acc.a, .bool acc.f]) (by simp [results, Try.results69, go_sem, e0, e1, e2]) rfl ⟨by first | (rw [HX.out]; done) | (rw [HX.out]; rfl) | (rw [HX.out]; simp [thenF, orF, starF]), (by repeat (first | exact Below.refl _ _ | assumption | refine Below.drew ?_ | refine below_drewN ?_ _ | refine Below.alloc ?_ (by first | omega | (simp; omega) | simp) _ | refine Below.setCell ?_ (by first | omega | (simp; omega) | simp) _))⟩
  · obtain ⟨x0, hx0⟩ := HO.out (ks.length - 1) (by omega)
    have HX0 : Hid (altF ((ofEs g fs ks).drop (ks.length - 1)) = x0) := by
      show _ = _
      rw [drop_of hx0, List.drop_eq_nil_of_le (by rw [HL.out]; omega), altF]
    have HXX : Hid (ofE g fs (.mk 6 a b c d t ks) = altF (ofEs g fs ks)) := by
      show _ = _
      rw [ofE, if_neg (by decide), if_neg (by decide), if_neg (by decide), if_neg (by decide), if_neg (by decide), if_pos rfl]
    have H8 := Lib.hid h8
    have HLEN := Lib.hid hlen
    have hkm' : ks.length ≤ 9223372036854775807 := by omega
    obtain ⟨m, hm⟩ : ∃ m, ks.length = m + 1 + 1 := ⟨ks.length - 2, by omega⟩
    have hl1 : ((ks.length : Nat) : Int) - 1 = ((m + 1 : Nat) : Int) := by omega
    have hl2 : ((ks.length : Nat) : Int) - 2 = (m : Int) := by omega
    rw [show ks.length - 1 = m + 1 by omega] at hx0 HX0
    have HM := Lib.hid hm
    clear hfit hname hE hG hF h8 hlen hm h2
    go_enter Try.func69, Try.ntmps69
    go_wp2_with fail
    refine (HK.out _ (m + 1) x0 hbox hx0).mono ?_
    rintro e w1 ⟨rfl, hb1⟩
    have hw1 := hbox.step hb1 (Nat.le_refl _)
    have hz6 := hw1.x6.lt
    have q6 : (w1.alloc (.cells #[.bool x0.e, .bool x0.a, .bool x0.f] 137)).cell? ⟨w.heap.size + 1 + 1, 6, none⟩ = some (.slice KA ks.length kcp) := (hw1.alloc _).x5.cell 6
    clear hb1 hbox hx0 hl1
    go_wp2
    go_loopw [11] (fun i wr => ∃ (j : Nat) (acc : Fa), j ≤ m + 1 ∧ i = .int .i64 ((j : Int) - 1) ∧ Hid (altF ((ofEs g fs ks).drop j) = acc) ∧ OfBox A FA KA g.length cp fs.length fcp ks.length kcp 6 a b c d t w wr ∧ Blk wr w1.heap.size 137 #[.bool acc.e, .bool acc.a, .bool acc.f]) (fun i _ => (intOf i + 1).toNat)
    case atStart => exact ⟨m + 1, x0, by omega, by congr 1; omega, HX0, hw1.alloc _, blk_at rfl⟩
    case round =>
      clear HX0 hw1 q6 hl2
      obtain ⟨j, acc, hj, rfl, HR, hwr, hacc⟩ := hrel
      have hal := hacc.lt
      by_cases hj0 : j = 0
      · subst hj0
        have HX : Hid (ofE g fs (.mk 6 a b c d t ks) = acc) := by
          show _ = _
          rw [HXX.out, ← HR.out, List.drop_zero]
        have a0 : wr.cell? ⟨w1.heap.size, 0, none⟩ = some (.bool acc.e) := hacc.cell 0
        have a1 : wr.cell? ⟨w1.heap.size, 1, none⟩ = some (.bool acc.a) := hacc.cell 1
        have a2 : wr.cell? ⟨w1.heap.size, 2, none⟩ = some (.bool acc.f) := hacc.cell 2
        have hm1 : (((0 : Nat) : Int) - 1) = -1 := by decide
        rw [hm1]
        clear hacc hm1
        have hbr := hwr.x6
        have z0 : wr.cell? ⟨w.heap.size + 1 + 1 + 1, 0, none⟩ = some (.bool false) := hbr.cell 0; have z1 : wr.cell? ⟨w.heap.size + 1 + 1 + 1, 1, none⟩ = some (.bool false) := hbr.cell 1; have z2 : wr.cell? ⟨w.heap.size + 1 + 1 + 1, 2, none⟩ = some (.bool false) := hbr.cell 2; have f0 := hbr.frozen 0; have f1 := hbr.frozen 1; have f2 := hbr.frozen 2; have e0 : (wr.setCell ⟨w.heap.size + 1 + 1 + 1, 0, none⟩ (.bool acc.e)).cell? ⟨w.heap.size + 1 + 1 + 1, 0, none⟩ = some (.bool acc.e) := (hbr.set_ 0 _).cell 0; have e1 : ((wr.setCell ⟨w.heap.size + 1 + 1 + 1, 0, none⟩ (.bool acc.e)).setCell ⟨w.heap.size + 1 + 1 + 1, 1, none⟩ (.bool acc.a)).cell? ⟨w.heap.size + 1 + 1 + 1, 1, none⟩ = some (.bool acc.a) := ((hbr.set_ 0 _).set_ 1 _).cell 1; have e2 : (((wr.setCell ⟨w.heap.size + 1 + 1 + 1, 0, none⟩ (.bool acc.e)).setCell ⟨w.heap.size + 1 + 1 + 1, 1, none⟩ (.bool acc.a)).setCell ⟨w.heap.size + 1 + 1 + 1, 2, none⟩ (.bool acc.f)).cell? ⟨w.heap.size + 1 + 1 + 1, 2, none⟩ = some (.bool acc.f) := (((hbr.set_ 0 _).set_ 1 _).set_ 2 _).cell 2
        have hbel := hwr.bel
        have hzz := hbel.size
        clear hbr
        go_wp2
        exact bodyPost_ret (v := .agg #[.bool acc.e, .bool acc.a, .bool acc.f]) (by simp [results, Try.results69, go_sem, e0, e1, e2]) rfl ⟨by first | (rw [HX.out]; done) | (rw [HX.out]; rfl) | (rw [HX.out]; simp [thenF, orF, starF]), (by repeat (first | exact Below.refl _ _ | assumption | refine Below.drew ?_ | refine below_drewN ?_ _ | refine Below.alloc ?_ (by first | omega | (simp; omega) | simp) _ | refine Below.setCell ?_ (by first | omega | (simp; omega) | simp) _))⟩
      · obtain ⟨q, rfl⟩ : ∃ q, j = q + 1 := ⟨j - 1, by omega⟩
        have hq1 : (((q + 1 : Nat) : Int) - 1) = (q : Int) := by omega
        rw [hq1]
        have hql : q < ks.length := by rw [HM.out]; omega
        obtain ⟨x, hx⟩ := HO.out q hql
        have HD := Lib.hid (drop_of hx)
        have hne : (ofEs g fs ks).drop (q + 1) ≠ [] := by
          intro h
          have := congrArg List.length h
          rw [List.length_drop, HL.out, HM.out] at this
          simp at this
          omega
        have HY : Hid (altF ((ofEs g fs ks).drop q) = orF x acc) := by
          show _ = _
          rw [HD.out, ← HR.out]
          cases hd : (ofEs g fs ks).drop (q + 1) with
          | nil => exact absurd hd hne
          | cons y ys => rw [altF]
        have HKX : Hid (∀ W, OfBox A FA KA g.length cp fs.length fcp ks.length kcp 6 a b c d t w W → _) := fun W hW => HK.out W q x hW hx
        have hq0 : (0 : Int) ≤ (q : Int) := by omega
        clear hx hne hj0 hq1
        go_wp2_with fail
        refine wp_region_tail (C := fun W => OfBox A FA KA g.length cp fs.length fcp ks.length kcp 6 a b c d t w W ∧ Blk W w1.heap.size 137 #[.bool acc.e, .bool acc.a, .bool acc.f] ∧ wr.heap.size ≤ W.heap.size) 5 (by kernel_rfl) (by kernel_rfl) ⟨hwr.drew, hacc.drew, by simp⟩ ?_
        clear hwr hacc
        repeat
          (first | refine wpQuiet_no rfl ?_ | (apply wpQuiet_yes rfl; · (intro W hW; obtain ⟨hO, hA, hZ⟩ := hW; have a0 := hA.cell 0; have a1 := hA.cell 1; have a2 := hA.cell 2; go_simp; first | rfl | (go_at_call 82; refine (HKX.out _ hO).mono ?_; exact fun e w' h => ⟨h.1, hO.step h.2 (Nat.le_refl _), hA.below h.2 hA.lt, Nat.le_trans hZ h.2.size⟩) | (go_at_call 84; refine (or_any x.e x.a x.f acc.e acc.a acc.f _).mono ?_; exact fun e w' h => ⟨h.1, hO.step h.2 (Nat.le_refl _), hA.below h.2 hA.lt, Nat.le_trans hZ h.2.size⟩)))); (try simp only [Act.put, List.setIfInBounds_toArray, List.set_cons_zero, List.set_cons_succ])
        refine wpQuiet_nil ?_
        rintro w2 ⟨hO, hA, hZ⟩
        have hv : (orF ⟨x.e, x.a, x.f⟩ ⟨acc.e, acc.a, acc.f⟩).vals.toArray = #[.bool (orF x acc).e, .bool (orF x acc).a, .bool (orF x acc).f] := rfl
        generalize orF x acc = y at HY hv
        simp only [List.drop, hv]
        have z0 : w2.cell? ⟨w1.heap.size, 0, none⟩ = some (.bool acc.e) := hA.cell 0; have z1 : w2.cell? ⟨w1.heap.size, 1, none⟩ = some (.bool acc.a) := hA.cell 1; have z2 : w2.cell? ⟨w1.heap.size, 2, none⟩ = some (.bool acc.f) := hA.cell 2; have f0 := hA.frozen 0; have f1 := hA.frozen 1; have f2 := hA.frozen 2; have e0 : (w2.setCell ⟨w1.heap.size, 0, none⟩ (.bool y.e)).cell? ⟨w1.heap.size, 0, none⟩ = some (.bool y.e) := (hA.set_ 0 _).cell 0; have e1 : ((w2.setCell ⟨w1.heap.size, 0, none⟩ (.bool y.e)).setCell ⟨w1.heap.size, 1, none⟩ (.bool y.a)).cell? ⟨w1.heap.size, 1, none⟩ = some (.bool y.a) := ((hA.set_ 0 _).set_ 1 _).cell 1; have e2 : (((w2.setCell ⟨w1.heap.size, 0, none⟩ (.bool y.e)).setCell ⟨w1.heap.size, 1, none⟩ (.bool y.a)).setCell ⟨w1.heap.size, 2, none⟩ (.bool y.f)).cell? ⟨w1.heap.size, 2, none⟩ = some (.bool y.f) := (((hA.set_ 0 _).set_ 1 _).set_ 2 _).cell 2
        have hA3 := ((hA.set_ 0 (.bool y.e)).set_ 1 (.bool y.a)).set_ 2 (.bool y.f)
        have hO3 := ((hO.set (p := ⟨w1.heap.size, 0, none⟩) hz6 (.bool y.e)).set (p := ⟨w1.heap.size, 1, none⟩) hz6 (.bool y.a)).set (p := ⟨w1.heap.size, 2, none⟩) hz6 (.bool y.f)
        clear hA hO hv
        have hq2 : (q : Int) - 1 = (q : Int) - 1 := rfl
        go_wp2
        go_roundw
        case rel => exact ⟨q, y, by omega, rfl, HY, hO3, hA3⟩
        case measure => simp [intOf]
  · obtain ⟨x0, hx0⟩ := HO.out 0 (by omega)
    have hkk := of_parts hx0
    rcases (show k = 7 ∨ k = 8 ∨ k = 9 ∨ k = 10 ∨ k = 11 by omega) with rfl | rfl | rfl | rfl | rfl
    · have HX : Hid (ofE g fs (.mk 7 a b c d t ks) = starF x0) := by
        show _ = _
        rw [ofE, if_neg (by decide), if_neg (by decide), if_neg (by decide), if_neg (by decide), if_neg (by decide), if_neg (by decide), if_pos rfl, hkk]
      clear hkk hfit hname hE hG hF h7 h11 h1
      have HLEN := Lib.hid hlen
      clear hlen
      go_enter Try.func69, Try.ntmps69
      go_wp2_with fail
      refine (HK.out _ 0 x0 hbox hx0).mono ?_
      rintro e w1 ⟨rfl, hb1⟩
      have hw1 := hbox.step hb1 (Nat.le_refl _)
      clear hb1 hbox
      go_wp2_with fail
      refine (star_any x0.e x0.a x0.f _).mono ?_
      rintro e w2 ⟨rfl, hb2⟩
      have hw2 := hw1.step hb2 (Nat.le_refl _)
      clear hb2 hw1
      have hbr := hw2.x6
      have z0 : w2.cell? ⟨w.heap.size + 1 + 1 + 1, 0, none⟩ = some (.bool false) := hbr.cell 0; have z1 : w2.cell? ⟨w.heap.size + 1 + 1 + 1, 1, none⟩ = some (.bool false) := hbr.cell 1; have z2 : w2.cell? ⟨w.heap.size + 1 + 1 + 1, 2, none⟩ = some (.bool false) := hbr.cell 2; have f0 := hbr.frozen 0; have f1 := hbr.frozen 1; have f2 := hbr.frozen 2; have e0 : (w2.setCell ⟨w.heap.size + 1 + 1 + 1, 0, none⟩ (.bool x0.f)).cell? ⟨w.heap.size + 1 + 1 + 1, 0, none⟩ = some (.bool x0.f) := (hbr.set_ 0 _).cell 0; have e1 : ((w2.setCell ⟨w.heap.size + 1 + 1 + 1, 0, none⟩ (.bool x0.f)).setCell ⟨w.heap.size + 1 + 1 + 1, 1, none⟩ (.bool x0.a)).cell? ⟨w.heap.size + 1 + 1 + 1, 1, none⟩ = some (.bool x0.a) := ((hbr.set_ 0 _).set_ 1 _).cell 1; have e2 : (((w2.setCell ⟨w.heap.size + 1 + 1 + 1, 0, none⟩ (.bool x0.f)).setCell ⟨w.heap.size + 1 + 1 + 1, 1, none⟩ (.bool x0.a)).setCell ⟨w.heap.size + 1 + 1 + 1, 2, none⟩ (.bool false)).cell? ⟨w.heap.size + 1 + 1 + 1, 2, none⟩ = some (.bool false) := (((hbr.set_ 0 _).set_ 1 _).set_ 2 _).cell 2
      have hbel := hw2.bel
      have hzz := hbel.size
      clear hbr
      go_wp2
      exact bodyPost_ret (v := .agg #[.bool x0.f, .bool x0.a, .bool false]) (by simp [results, Try.results69, go_sem, e0, e1, e2]) rfl ⟨by first | (rw [HX.out]; done) | (rw [HX.out]; rfl) | (rw [HX.out]; simp [thenF, orF, starF]), (by repeat (first | exact Below.refl _ _ | assumption | refine Below.drew ?_ | refine below_drewN ?_ _ | refine Below.alloc ?_ (by first | omega | (simp; omega) | simp) _ | refine Below.setCell ?_ (by first | omega | (simp; omega) | simp) _))⟩
    · have HX : Hid (ofE g fs (.mk 8 a b c d t ks) = thenF x0 (starF x0)) := by
        show _ = _
        rw [ofE, if_neg (by decide), if_neg (by decide), if_neg (by decide), if_neg (by decide), if_neg (by decide), if_neg (by decide), if_neg (by decide), if_pos rfl, hkk]
      clear hkk hfit hname hE hG hF h7 h11 h1
      have HLEN := Lib.hid hlen
      clear hlen
      go_enter Try.func69, Try.ntmps69
      go_wp2_with fail
      refine (HK.out _ 0 x0 hbox hx0).mono ?_
      rintro e w1 ⟨rfl, hb1⟩
      have hw1 := hbox.step hb1 (Nat.le_refl _)
      clear hb1 hbox
      go_wp2_with fail
      refine (HK.out _ 0 x0 hw1 hx0).mono ?_
      rintro e w2 ⟨rfl, hb2⟩
      have hw2 := hw1.step hb2 (Nat.le_refl _)
      clear hb2 hw1
      go_wp2_with fail
      refine (star_any x0.e x0.a x0.f _).mono ?_
      rintro e w3 ⟨rfl, hb3⟩
      have hw3 := hw2.step hb3 (Nat.le_refl _)
      clear hb3 hw2
      go_wp2_with fail
      refine (then_any x0.e x0.a x0.f x0.f x0.a false _).mono ?_
      rintro e w4 ⟨rfl, hb4⟩
      have hw4 := hw3.step hb4 (Nat.le_refl _)
      clear hb4 hw3
      have hv : (thenF ⟨x0.e, x0.a, x0.f⟩ ⟨x0.f, x0.a, false⟩).vals.toArray = #[.bool (thenF x0 (starF x0)).e, .bool (thenF x0 (starF x0)).a, .bool (thenF x0 (starF x0)).f] := rfl
      generalize thenF x0 (starF x0) = y at HX hv
      simp only [hv]
      clear hv
      have hbr := hw4.x6
      have z0 : w4.cell? ⟨w.heap.size + 1 + 1 + 1, 0, none⟩ = some (.bool false) := hbr.cell 0; have z1 : w4.cell? ⟨w.heap.size + 1 + 1 + 1, 1, none⟩ = some (.bool false) := hbr.cell 1; have z2 : w4.cell? ⟨w.heap.size + 1 + 1 + 1, 2, none⟩ = some (.bool false) := hbr.cell 2; have f0 := hbr.frozen 0; have f1 := hbr.frozen 1; have f2 := hbr.frozen 2; have e0 : (w4.setCell ⟨w.heap.size + 1 + 1 + 1, 0, none⟩ (.bool y.e)).cell? ⟨w.heap.size + 1 + 1 + 1, 0, none⟩ = some (.bool y.e) := (hbr.set_ 0 _).cell 0; have e1 : ((w4.setCell ⟨w.heap.size + 1 + 1 + 1, 0, none⟩ (.bool y.e)).setCell ⟨w.heap.size + 1 + 1 + 1, 1, none⟩ (.bool y.a)).cell? ⟨w.heap.size + 1 + 1 + 1, 1, none⟩ = some (.bool y.a) := ((hbr.set_ 0 _).set_ 1 _).cell 1; have e2 : (((w4.setCell ⟨w.heap.size + 1 + 1 + 1, 0, none⟩ (.bool y.e)).setCell ⟨w.heap.size + 1 + 1 + 1, 1, none⟩ (.bool y.a)).setCell ⟨w.heap.size + 1 + 1 + 1, 2, none⟩ (.bool y.f)).cell? ⟨w.heap.size + 1 + 1 + 1, 2, none⟩ = some (.bool y.f) := (((hbr.set_ 0 _).set_ 1 _).set_ 2 _).cell 2
      have hbel := hw4.bel
      have hzz := hbel.size
      clear hbr
      go_wp2
      exact bodyPost_ret (v := .agg #[.bool y.e, .bool y.a, .bool y.f]) (by simp [results, Try.results69, go_sem, e0, e1, e2]) rfl ⟨by first | (rw [HX.out]; done) | (rw [HX.out]; rfl) | (rw [HX.out]; simp [thenF, orF, starF]), (by repeat (first | exact Below.refl _ _ | assumption | refine Below.drew ?_ | refine below_drewN ?_ _ | refine Below.alloc ?_ (by first | omega | (simp; omega) | simp) _ | refine Below.setCell ?_ (by first | omega | (simp; omega) | simp) _))⟩
    · have HX : Hid (ofE g fs (.mk 9 a b c d t ks) = orF x0 ⟨true, false, false⟩) := by
        show _ = _
        rw [ofE, if_neg (by decide), if_neg (by decide), if_neg (by decide), if_neg (by decide), if_neg (by decide), if_neg (by decide), if_neg (by decide), if_neg (by decide), if_pos rfl, hkk]
      clear hkk hfit hname hE hG hF h7 h11 h1
      have HLEN := Lib.hid hlen
      clear hlen
      go_enter Try.func69, Try.ntmps69
      go_wp2_with fail
      refine (HK.out _ 0 x0 hbox hx0).mono ?_
      rintro e w1 ⟨rfl, hb1⟩
      have hw1 := hbox.step hb1 (Nat.le_refl _)
      clear hb1 hbox
      go_wp2_with fail
      refine (or_any x0.e x0.a x0.f true false false _).mono ?_
      rintro e w4 ⟨rfl, hb4⟩
      have hw4 := hw1.step hb4 (Nat.le_refl _)
      clear hb4 hw1
      have hv : (orF ⟨x0.e, x0.a, x0.f⟩ ⟨true, false, false⟩).vals.toArray = #[.bool (orF x0 ⟨true, false, false⟩).e, .bool (orF x0 ⟨true, false, false⟩).a, .bool (orF x0 ⟨true, false, false⟩).f] := rfl
      generalize orF x0 ⟨true, false, false⟩ = y at HX hv
      simp only [hv]
      clear hv
      have hbr := hw4.x6
      have z0 : w4.cell? ⟨w.heap.size + 1 + 1 + 1, 0, none⟩ = some (.bool false) := hbr.cell 0; have z1 : w4.cell? ⟨w.heap.size + 1 + 1 + 1, 1, none⟩ = some (.bool false) := hbr.cell 1; have z2 : w4.cell? ⟨w.heap.size + 1 + 1 + 1, 2, none⟩ = some (.bool false) := hbr.cell 2; have f0 := hbr.frozen 0; have f1 := hbr.frozen 1; have f2 := hbr.frozen 2; have e0 : (w4.setCell ⟨w.heap.size + 1 + 1 + 1, 0, none⟩ (.bool y.e)).cell? ⟨w.heap.size + 1 + 1 + 1, 0, none⟩ = some (.bool y.e) := (hbr.set_ 0 _).cell 0; have e1 : ((w4.setCell ⟨w.heap.size + 1 + 1 + 1, 0, none⟩ (.bool y.e)).setCell ⟨w.heap.size + 1 + 1 + 1, 1, none⟩ (.bool y.a)).cell? ⟨w.heap.size + 1 + 1 + 1, 1, none⟩ = some (.bool y.a) := ((hbr.set_ 0 _).set_ 1 _).cell 1; have e2 : (((w4.setCell ⟨w.heap.size + 1 + 1 + 1, 0, none⟩ (.bool y.e)).setCell ⟨w.heap.size + 1 + 1 + 1, 1, none⟩ (.bool y.a)).setCell ⟨w.heap.size + 1 + 1 + 1, 2, none⟩ (.bool y.f)).cell? ⟨w.heap.size + 1 + 1 + 1, 2, none⟩ = some (.bool y.f) := (((hbr.set_ 0 _).set_ 1 _).set_ 2 _).cell 2
      have hbel := hw4.bel
      have hzz := hbel.size
      clear hbr
      go_wp2
      exact bodyPost_ret (v := .agg #[.bool y.e, .bool y.a, .bool y.f]) (by simp [results, Try.results69, go_sem, e0, e1, e2]) rfl ⟨by first | (rw [HX.out]; done) | (rw [HX.out]; rfl) | (rw [HX.out]; simp [thenF, orF, starF]), (by repeat (first | exact Below.refl _ _ | assumption | refine Below.drew ?_ | refine below_drewN ?_ _ | refine Below.alloc ?_ (by first | omega | (simp; omega) | simp) _ | refine Below.setCell ?_ (by first | omega | (simp; omega) | simp) _))⟩
    · have HX : Hid (ofE g fs (.mk 10 a b c d t ks) = ⟨x0.e || x0.a, false, x0.f⟩) := by
        show _ = _
        rw [ofE, if_neg (by decide), if_neg (by decide), if_neg (by decide), if_neg (by decide), if_neg (by decide), if_neg (by decide), if_neg (by decide), if_neg (by decide), if_neg (by decide), if_pos rfl, hkk]
      clear hkk hfit hname hE hG hF h7 h11 h1
      have HLEN := Lib.hid hlen
      clear hlen
      go_enter Try.func69, Try.ntmps69
      go_wp2_with fail
      refine (HK.out _ 0 x0 hbox hx0).mono ?_
      rintro e w1 ⟨rfl, hb1⟩
      have hw1 := hbox.step hb1 (Nat.le_refl _)
      clear hb1 hbox
      obtain ⟨xe, xa, xf⟩ := x0
      have hw2 := hw1.alloc (.cells #[.bool xe, .bool xa, .bool xf] 137)
      have q0 : (w1.alloc (.cells #[.bool xe, .bool xa, .bool xf] 137)).cell? ⟨w.heap.size + 1 + 1, 0, none⟩ = some (.int .i64 10) := hw2.x5.cell 0
      cases xe
      · skip
        have hbr := hw2.x6
        have z0 : (w1.alloc (.cells #[.bool false, .bool xa, .bool xf] 137)).cell? ⟨w.heap.size + 1 + 1 + 1, 0, none⟩ = some (.bool false) := hbr.cell 0; have z1 : (w1.alloc (.cells #[.bool false, .bool xa, .bool xf] 137)).cell? ⟨w.heap.size + 1 + 1 + 1, 1, none⟩ = some (.bool false) := hbr.cell 1; have z2 : (w1.alloc (.cells #[.bool false, .bool xa, .bool xf] 137)).cell? ⟨w.heap.size + 1 + 1 + 1, 2, none⟩ = some (.bool false) := hbr.cell 2; have f0 := hbr.frozen 0; have f1 := hbr.frozen 1; have f2 := hbr.frozen 2; have e0 : ((w1.alloc (.cells #[.bool false, .bool xa, .bool xf] 137)).setCell ⟨w.heap.size + 1 + 1 + 1, 0, none⟩ (.bool xa)).cell? ⟨w.heap.size + 1 + 1 + 1, 0, none⟩ = some (.bool xa) := (hbr.set_ 0 _).cell 0; have e1 : (((w1.alloc (.cells #[.bool false, .bool xa, .bool xf] 137)).setCell ⟨w.heap.size + 1 + 1 + 1, 0, none⟩ (.bool xa)).setCell ⟨w.heap.size + 1 + 1 + 1, 1, none⟩ (.bool false)).cell? ⟨w.heap.size + 1 + 1 + 1, 1, none⟩ = some (.bool false) := ((hbr.set_ 0 _).set_ 1 _).cell 1; have e2 : ((((w1.alloc (.cells #[.bool false, .bool xa, .bool xf] 137)).setCell ⟨w.heap.size + 1 + 1 + 1, 0, none⟩ (.bool xa)).setCell ⟨w.heap.size + 1 + 1 + 1, 1, none⟩ (.bool false)).setCell ⟨w.heap.size + 1 + 1 + 1, 2, none⟩ (.bool xf)).cell? ⟨w.heap.size + 1 + 1 + 1, 2, none⟩ = some (.bool xf) := (((hbr.set_ 0 _).set_ 1 _).set_ 2 _).cell 2
        have hbel := hw2.bel
        have hzz := hbel.size
        clear hbr
        go_wp2
        exact bodyPost_ret (v := .agg #[.bool xa, .bool false, .bool xf]) (by simp [results, Try.results69, go_sem, e0, e1, e2]) rfl ⟨by first | (rw [HX.out]; done) | (rw [HX.out]; rfl) | (rw [HX.out]; simp [thenF, orF, starF]), (by repeat (first | exact Below.refl _ _ | assumption | refine Below.drew ?_ | refine below_drewN ?_ _ | refine Below.alloc ?_ (by first | omega | (simp; omega) | simp) _ | refine Below.setCell ?_ (by first | omega | (simp; omega) | simp) _))⟩
      · skip
        have hbr := hw2.x6
        have z0 : (w1.alloc (.cells #[.bool true, .bool xa, .bool xf] 137)).cell? ⟨w.heap.size + 1 + 1 + 1, 0, none⟩ = some (.bool false) := hbr.cell 0; have z1 : (w1.alloc (.cells #[.bool true, .bool xa, .bool xf] 137)).cell? ⟨w.heap.size + 1 + 1 + 1, 1, none⟩ = some (.bool false) := hbr.cell 1; have z2 : (w1.alloc (.cells #[.bool true, .bool xa, .bool xf] 137)).cell? ⟨w.heap.size + 1 + 1 + 1, 2, none⟩ = some (.bool false) := hbr.cell 2; have f0 := hbr.frozen 0; have f1 := hbr.frozen 1; have f2 := hbr.frozen 2; have e0 : ((w1.alloc (.cells #[.bool true, .bool xa, .bool xf] 137)).setCell ⟨w.heap.size + 1 + 1 + 1, 0, none⟩ (.bool true)).cell? ⟨w.heap.size + 1 + 1 + 1, 0, none⟩ = some (.bool true) := (hbr.set_ 0 _).cell 0; have e1 : (((w1.alloc (.cells #[.bool true, .bool xa, .bool xf] 137)).setCell ⟨w.heap.size + 1 + 1 + 1, 0, none⟩ (.bool true)).setCell ⟨w.heap.size + 1 + 1 + 1, 1, none⟩ (.bool false)).cell? ⟨w.heap.size + 1 + 1 + 1, 1, none⟩ = some (.bool false) := ((hbr.set_ 0 _).set_ 1 _).cell 1; have e2 : ((((w1.alloc (.cells #[.bool true, .bool xa, .bool xf] 137)).setCell ⟨w.heap.size + 1 + 1 + 1, 0, none⟩ (.bool true)).setCell ⟨w.heap.size + 1 + 1 + 1, 1, none⟩ (.bool false)).setCell ⟨w.heap.size + 1 + 1 + 1, 2, none⟩ (.bool xf)).cell? ⟨w.heap.size + 1 + 1 + 1, 2, none⟩ = some (.bool xf) := (((hbr.set_ 0 _).set_ 1 _).set_ 2 _).cell 2
        have hbel := hw2.bel
        have hzz := hbel.size
        clear hbr
        go_wp2
        exact bodyPost_ret (v := .agg #[.bool true, .bool false, .bool xf]) (by simp [results, Try.results69, go_sem, e0, e1, e2]) rfl ⟨by first | (rw [HX.out]; done) | (rw [HX.out]; rfl) | (rw [HX.out]; simp [thenF, orF, starF]), (by repeat (first | exact Below.refl _ _ | assumption | refine Below.drew ?_ | refine below_drewN ?_ _ | refine Below.alloc ?_ (by first | omega | (simp; omega) | simp) _ | refine Below.setCell ?_ (by first | omega | (simp; omega) | simp) _))⟩
    · have HX : Hid (ofE g fs (.mk 11 a b c d t ks) = ⟨x0.f, false, x0.e || x0.a⟩) := by
        show _ = _
        rw [ofE, if_neg (by decide), if_neg (by decide), if_neg (by decide), if_neg (by decide), if_neg (by decide), if_neg (by decide), if_neg (by decide), if_neg (by decide), if_neg (by decide), if_neg (by decide), hkk]
      clear hkk hfit hname hE hG hF h7 h11 h1
      have HLEN := Lib.hid hlen
      clear hlen
      go_enter Try.func69, Try.ntmps69
      go_wp2_with fail
      refine (HK.out _ 0 x0 hbox hx0).mono ?_
      rintro e w1 ⟨rfl, hb1⟩
      have hw1 := hbox.step hb1 (Nat.le_refl _)
      clear hb1 hbox
      obtain ⟨xe, xa, xf⟩ := x0
      have hw2 := hw1.alloc (.cells #[.bool xe, .bool xa, .bool xf] 137)
      have q0 : (w1.alloc (.cells #[.bool xe, .bool xa, .bool xf] 137)).cell? ⟨w.heap.size + 1 + 1, 0, none⟩ = some (.int .i64 11) := hw2.x5.cell 0
      cases xe
      · skip
        have hbr := hw2.x6
        have z0 : (w1.alloc (.cells #[.bool false, .bool xa, .bool xf] 137)).cell? ⟨w.heap.size + 1 + 1 + 1, 0, none⟩ = some (.bool false) := hbr.cell 0; have z1 : (w1.alloc (.cells #[.bool false, .bool xa, .bool xf] 137)).cell? ⟨w.heap.size + 1 + 1 + 1, 1, none⟩ = some (.bool false) := hbr.cell 1; have z2 : (w1.alloc (.cells #[.bool false, .bool xa, .bool xf] 137)).cell? ⟨w.heap.size + 1 + 1 + 1, 2, none⟩ = some (.bool false) := hbr.cell 2; have f0 := hbr.frozen 0; have f1 := hbr.frozen 1; have f2 := hbr.frozen 2; have e0 : ((w1.alloc (.cells #[.bool false, .bool xa, .bool xf] 137)).setCell ⟨w.heap.size + 1 + 1 + 1, 0, none⟩ (.bool xf)).cell? ⟨w.heap.size + 1 + 1 + 1, 0, none⟩ = some (.bool xf) := (hbr.set_ 0 _).cell 0; have e1 : (((w1.alloc (.cells #[.bool false, .bool xa, .bool xf] 137)).setCell ⟨w.heap.size + 1 + 1 + 1, 0, none⟩ (.bool xf)).setCell ⟨w.heap.size + 1 + 1 + 1, 1, none⟩ (.bool false)).cell? ⟨w.heap.size + 1 + 1 + 1, 1, none⟩ = some (.bool false) := ((hbr.set_ 0 _).set_ 1 _).cell 1; have e2 : ((((w1.alloc (.cells #[.bool false, .bool xa, .bool xf] 137)).setCell ⟨w.heap.size + 1 + 1 + 1, 0, none⟩ (.bool xf)).setCell ⟨w.heap.size + 1 + 1 + 1, 1, none⟩ (.bool false)).setCell ⟨w.heap.size + 1 + 1 + 1, 2, none⟩ (.bool xa)).cell? ⟨w.heap.size + 1 + 1 + 1, 2, none⟩ = some (.bool xa) := (((hbr.set_ 0 _).set_ 1 _).set_ 2 _).cell 2
        have hbel := hw2.bel
        have hzz := hbel.size
        clear hbr
        go_wp2
        exact bodyPost_ret (v := .agg #[.bool xf, .bool false, .bool xa]) (by simp [results, Try.results69, go_sem, e0, e1, e2]) rfl ⟨by first | (rw [HX.out]; done) | (rw [HX.out]; rfl) | (rw [HX.out]; simp [thenF, orF, starF]), (by repeat (first | exact Below.refl _ _ | assumption | refine Below.drew ?_ | refine below_drewN ?_ _ | refine Below.alloc ?_ (by first | omega | (simp; omega) | simp) _ | refine Below.setCell ?_ (by first | omega | (simp; omega) | simp) _))⟩
      · skip
        have hbr := hw2.x6
        have z0 : (w1.alloc (.cells #[.bool true, .bool xa, .bool xf] 137)).cell? ⟨w.heap.size + 1 + 1 + 1, 0, none⟩ = some (.bool false) := hbr.cell 0; have z1 : (w1.alloc (.cells #[.bool true, .bool xa, .bool xf] 137)).cell? ⟨w.heap.size + 1 + 1 + 1, 1, none⟩ = some (.bool false) := hbr.cell 1; have z2 : (w1.alloc (.cells #[.bool true, .bool xa, .bool xf] 137)).cell? ⟨w.heap.size + 1 + 1 + 1, 2, none⟩ = some (.bool false) := hbr.cell 2; have f0 := hbr.frozen 0; have f1 := hbr.frozen 1; have f2 := hbr.frozen 2; have e0 : ((w1.alloc (.cells #[.bool true, .bool xa, .bool xf] 137)).setCell ⟨w.heap.size + 1 + 1 + 1, 0, none⟩ (.bool xf)).cell? ⟨w.heap.size + 1 + 1 + 1, 0, none⟩ = some (.bool xf) := (hbr.set_ 0 _).cell 0; have e1 : (((w1.alloc (.cells #[.bool true, .bool xa, .bool xf] 137)).setCell ⟨w.heap.size + 1 + 1 + 1, 0, none⟩ (.bool xf)).setCell ⟨w.heap.size + 1 + 1 + 1, 1, none⟩ (.bool false)).cell? ⟨w.heap.size + 1 + 1 + 1, 1, none⟩ = some (.bool false) := ((hbr.set_ 0 _).set_ 1 _).cell 1; have e2 : ((((w1.alloc (.cells #[.bool true, .bool xa, .bool xf] 137)).setCell ⟨w.heap.size + 1 + 1 + 1, 0, none⟩ (.bool xf)).setCell ⟨w.heap.size + 1 + 1 + 1, 1, none⟩ (.bool false)).setCell ⟨w.heap.size + 1 + 1 + 1, 2, none⟩ (.bool true)).cell? ⟨w.heap.size + 1 + 1 + 1, 2, none⟩ = some (.bool true) := (((hbr.set_ 0 _).set_ 1 _).set_ 2 _).cell 2
        have hbel := hw2.bel
        have hzz := hbel.size
        clear hbr
        go_wp2
        exact bodyPost_ret (v := .agg #[.bool xf, .bool false, .bool true]) (by simp [results, Try.results69, go_sem, e0, e1, e2]) rfl ⟨by first | (rw [HX.out]; done) | (rw [HX.out]; rfl) | (rw [HX.out]; simp [thenF, orF, starF]), (by repeat (first | exact Below.refl _ _ | assumption | refine Below.drew ?_ | refine below_drewN ?_ _ | refine Below.alloc ?_ (by first | omega | (simp; omega) | simp) _ | refine Below.setCell ?_ (by first | omega | (simp; omega) | simp) _))⟩
end Go.Proofs.Ytndhbdbfjkmloaa
