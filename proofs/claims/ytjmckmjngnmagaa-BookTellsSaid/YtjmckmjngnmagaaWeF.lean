/- What well.facts, well.loops answer; plain: loops, sound. -/
import Derived.Test.YtjmckmjngnmagaaWeE
import Derived.Test.YtjmckmjngnmagaaGC
namespace Go.Proofs.Ytjmckmjngnmagaa
open Go.RowKit

set_option maxRecDepth 100000 in
theorem facts_any {g : List Rl} {A : Option Addr} {cp : Nat} {row : Nat → List Value} {w : World} (h : GrIs w w.heap.size g A cp row) (hR : ∀ r ∈ g, Rt g r.2) (h10 : g.length ≤ 10) :
    Calls Try.prog 49 #[.agg #[.slice A g.length cp]] w fun e w' => ∃ b, e = .returned (.slice (some ⟨b, 0, none⟩) g.length g.length) ∧ FacB w' b (factsG g) ∧ w.heap.size ≤ b ∧ Below w.heap.size w w' := by
  have hbg : Blk (w.alloc (.cells #[.slice A g.length cp] 24)) w.heap.size 24 #[.slice A g.length cp] := blk_at rfl
  have hgr := growF_any (w := w.alloc (.cells #[.slice A g.length cp] 24)) ((h.on ((Below.refl _ _).alloc (Nat.le_refl _) _)).more (by simp)) hbg hR h10
  have HG := Lib.hid hgr
  clear hgr h hR hbg
  go_enter Try.func49, Try.ntmps49
  go_wp2_with fail
  refine HG.out.mono ?_
  rintro e w1 ⟨rfl, hf, hb1⟩
  have hw1 : Below w.heap.size w w1 := ((Below.refl _ w).alloc (Nat.le_refl _) _).trans (hb1.mono (by simp))
  clear hb1
  go_wp2
  go_ret
  exact ⟨_, rfl, (by rw [World.size_alloc] at hf; exact hf), by simp, hw1⟩

theorem run_empty (e a f : Bool) (w : World) : (Instr.field 43 (.agg #[.bool e, .bool a, .bool f]) 0).run Try.prog w = .ok (.bool e) w := by kernel_rfl

mutual
/-- is something taken again and again that may take no byte? -/
def loopsE (g : List Rl) (fs : List Fa) : Ex → Bool
  | .mk k _ _ _ _ _ ks => ((k == 7 || k == 8) && (kid0 (ofEs g fs ks)).e) || loopsEs g fs ks
def loopsEs (g : List Rl) (fs : List Fa) : List Ex → Bool
  | [] => false
  | e :: es => loopsE g fs e || loopsEs g fs es
end
mutual
/-- does it come to an end, if the rules do that are known to? -/
def soundE (g : List Rl) (fs : List Fa) (kn : List Bool) : Ex → Bool
  | .mk k _ _ _ _ t ks => if k = 4 then kn.getD (fnd g t.data.toList).toNat false else if k = 5 then soundS g fs kn ks else soundA g fs kn ks
def soundS (g : List Rl) (fs : List Fa) (kn : List Bool) : List Ex → Bool
  | [] => true
  | e :: es => if soundE g fs kn e = false then false else if (ofE g fs e).e = false then true else soundS g fs kn es
def soundA (g : List Rl) (fs : List Fa) (kn : List Bool) : List Ex → Bool
  | [] => true
  | e :: es => if soundE g fs kn e = false then false else soundA g fs kn es
end

/-- the boxes of a grammar and of an expression, one behind the other from block b on -/
structure Box2 (A KA : Option Addr) (m cp kn kcp : Nat) (k a b c d : Int) (t : ByteArray) (w W : World) : Prop where
  bel : Below w.heap.size w W
  x3 : Blk W w.heap.size 24 #[.slice A m cp]
  x5 : Blk W (w.heap.size + 1) 35 #[.int .i64 k, .int .u64 a, .int .u64 b, .int .u64 c, .int .u64 d, .string t, .slice KA kn kcp]
section
variable {A KA : Option Addr} {m cp kn kcp : Nat} {k a b c d : Int} {t : ByteArray} {w W W' : World}
theorem Box2.step (h : Box2 A KA m cp kn kcp k a b c d t w W) {B : Nat} (hb : Below B W W') (hB : W.heap.size ≤ B) : Box2 A KA m cp kn kcp k a b c d t w W' :=
  have hb' := hb.mono hB
  ⟨h.bel.trans (hb'.mono h.bel.size), h.x3.below hb' h.x3.lt, h.x5.below hb' h.x5.lt⟩
theorem Box2.alloc (h : Box2 A KA m cp kn kcp k a b c d t w W) (o : Obj) : Box2 A KA m cp kn kcp k a b c d t w (W.alloc o) := h.step ((Below.refl _ _).alloc (Nat.le_refl _) o) (Nat.le_refl _)
theorem Box2.drew (h : Box2 A KA m cp kn kcp k a b c d t w W) : Box2 A KA m cp kn kcp k a b c d t w W.drew := ⟨h.bel.drew, h.x3, h.x5⟩
end

set_option maxRecDepth 100000 in
set_option maxHeartbeats 8000000 in
theorem loops_any {g : List Rl} {fs : List Fa} {A FA : Option Addr} {cp fcp : Nat} {row : Nat → List Value} (hlen : fs.length = g.length) (e : Ex) : ∀ (cs : List Value) (w : World), GrIs w w.heap.size g A cp row → Reads w w.heap.size 3 FA fs.length (facs fs) →
    ExIs w w.heap.size e cs → Rt g e → Calls Try.prog 55 #[.agg #[.slice A g.length cp], .slice FA fs.length fcp, .agg cs.toArray] w fun e' w' => e' = .returned (.bool (loopsE g fs e)) ∧ Below w.heap.size w w' := by
  refine Ex.ind (P := fun e => ∀ (cs : List Value) (w : World), GrIs w w.heap.size g A cp row → Reads w w.heap.size 3 FA fs.length (facs fs) →
    ExIs w w.heap.size e cs → Rt g e → Calls Try.prog 55 #[.agg #[.slice A g.length cp], .slice FA fs.length fcp, .agg cs.toArray] w fun e' w' => e' = .returned (.bool (loopsE g fs e)) ∧ Below w.heap.size w w') ?_ e
  intro k a b c d t ks ih cs w hG hF hE hR
  cases hR with
  | mk _ _ _ _ _ _ _ hfit hname hkids =>
  obtain ⟨ht, KA, kcp, rfl, hkc, hkm, _⟩ := hE.shape
  unfold exCells
  have hof := fun (j : Nat) (k' a' b' c' d' : Int) (t' : ByteArray) (ks' : List Ex) (A' : Option Addr) (cp' : Nat) (W : World) (hW : Below w.heap.size w W) (hj : ks[j]? = some (.mk k' a' b' c' d' t' ks'))
      (hE' : ExIs W w.heap.size (.mk k' a' b' c' d' t' ks') (exCells k' a' b' c' d' t' A' ks'.length cp')) =>
    of_any (fcp := fcp) hlen _ _ W ((hG.on hW).more hW.size) ((hF.below hW).more hW.size) (hE'.keep hW.size fun _ _ => rfl) (hkids _ (List.mem_of_getElem? hj))
  have hlo := fun (j : Nat) (k' a' b' c' d' : Int) (t' : ByteArray) (ks' : List Ex) (A' : Option Addr) (cp' : Nat) (W : World) (hW : Below w.heap.size w W) (hj : ks[j]? = some (.mk k' a' b' c' d' t' ks'))
      (hE' : ExIs W w.heap.size (.mk k' a' b' c' d' t' ks') (exCells k' a' b' c' d' t' A' ks'.length cp')) =>
    ih _ (List.mem_of_getElem? hj) _ W ((hG.on hW).more hW.size) ((hF.below hW).more hW.size) (hE'.keep hW.size fun _ _ => rfl) (hkids _ (List.mem_of_getElem? hj))
  unfold exCells at hof hlo
  have HOF := Lib.hid hof
  have HLO := Lib.hid hlo
  have HE := Lib.hid hE
  have HLEN := Lib.hid hlen
  have hbox : Box2 A KA g.length cp ks.length kcp k a b c d t w ((w.alloc (.cells #[.slice A g.length cp] 24)).alloc (.cells #[.int .i64 k, .int .u64 a, .int .u64 b, .int .u64 c, .int .u64 d, .string t, .slice KA ks.length kcp] 35)) := ⟨(by repeat (first | exact Below.refl _ _ | assumption | refine Below.drew ?_ | refine below_drewN ?_ _ | refine Below.alloc ?_ (by first | omega | (simp; omega) | simp) _ | refine Below.setCell ?_ (by first | omega | (simp; omega) | simp) _)), (blk_at rfl).alloc _, blk_at (by simp)⟩
  have HX : Hid (loopsE g fs (.mk k a b c d t ks) = (((k == 7 || k == 8) && (kid0 (ofEs g fs ks)).e) || loopsEs g fs ks)) := by show _ = _; rw [loopsE]
  have hfc := fit_cases hfit
  have h18 : (k = 7 ∨ k = 8) → 0 < ks.length := by omega
  have h8 : ks.length ≤ 8 := by omega
  clear hof hlo ih hG hF hE hname hkids hfit hlen hfc
  have hm8 : ks.length ≤ 9223372036854775807 := by omega
  have H8 := Lib.hid h8
  clear h8
  by_cases h78 : k = 7 ∨ k = 8
  · obtain ⟨ad, k', a', b', c', d', t', ks', A', cp', rfl, hab, hej, hE', hS⟩ := HE.out.kid (h18 h78)
    have hkk : kid0 (ofEs g fs ks) = ofE g fs (.mk k' a' b' c' d' t' ks') := of_parts (by rw [ofEs_at, hej]; rfl)
    have hcall := fun W (hW : Below w.heap.size w W) => HOF.out 0 k' a' b' c' d' t' ks' A' cp' W hW hej (hE'.on hW)
    rw [Nat.zero_mul] at hS
    have hS1 : Seven w ad k' a' b' c' d' t' A' ks'.length cp' := hS
    have hsv := fun W (hW : Below w.heap.size w W) => hS1.keep (w' := W) fun q hq => hW.cell (by rw [hq]; exact hab)
    rw [hkk] at HX
    generalize ofE g fs (.mk k' a' b' c' d' t' ks') = x at hcall HX
    have HC := Lib.hid hcall
    have HS := Lib.hid hsv
    have hkl : 0 < ks.length := h18 h78
    have hHX : loopsE g fs (.mk k a b c d t ks) = (x.e || loopsEs g fs ks) := by
      rw [HX.out]
      rcases h78 with rfl | rfl <;> simp
    have HX2 := Lib.hid hHX
    clear hej hE' hS hS1 hcall hsv hkk h18 HOF HX hHX
    have hfe := run_empty x.e x.a x.f
    go_enter Try.func55, Try.ntmps55
    go_wp2_with fail
    refine wp_region_q (Box2 (A := A) (some ad) g.length cp ks.length kcp k a b c d t w) (by kernel_rfl) (by kernel_rfl) hbox.drew ?_
    have h2 : (k == 7) = true ∨ ((k == 7) = false ∧ (k == 8) = true) := by
      rcases h78 with rfl | rfl
      · exact .inl rfl
      · exact .inr ⟨rfl, rfl⟩
    clear h78
    rcases h2 with hz1 | ⟨hz1, hz2⟩
    all_goals
      repeat
        (first | ((with_reducible apply QW.free rfl); · (intro W hW; have q1 := hW.x3.cell 0; have q2 := hW.x5.cell 0; have q3 := hW.x5.cell 6; obtain ⟨s0, s1, s2, s3, s4, s5, s6⟩ := HS.out _ hW.bel; go_simp; first | rfl | (go_at_call 83; refine (HC.out _ hW.bel).mono ?_; exact fun e w' h => ⟨h.1, hW.step h.2 (Nat.le_refl _)⟩))) | ((with_reducible apply QW.skip rfl); · (first | exact ⟨_, _, rfl, rfl, .inl rfl⟩ | exact ⟨_, _, rfl, rfl, .inr rfl⟩)) | ((with_reducible apply QW.take rfl); (· exact ⟨_, rfl, rfl⟩); (· (intro W hW; have q1 := hW.x3.cell 0; have q2 := hW.x5.cell 0; have q3 := hW.x5.cell 6; obtain ⟨s0, s1, s2, s3, s4, s5, s6⟩ := HS.out _ hW.bel; go_simp; first | rfl | (go_at_call 83; refine (HC.out _ hW.bel).mono ?_; exact fun e w' h => ⟨h.1, hW.step h.2 (Nat.le_refl _)⟩))))); (try simp only [Act.put, List.setIfInBounds_toArray, List.set_cons_zero, List.set_cons_succ])
      refine QW.nil ?_
      intro w1 hw1
    all_goals
      have hbw := hw1.bel
      have qq : w1.cell? ⟨w.heap.size + 1, 6, none⟩ = some (.slice (some ad) ks.length kcp) := hw1.x5.cell 6
      cases hxe : x.e
      · have HXX : Hid (loopsEs g fs (ks.drop 0) = loopsE g fs (.mk k a b c d t ks)) := by show _ = _; rw [HX2.out, hxe, Bool.false_or, List.drop_zero]
        clear HX2 hxe hfe HC HS
        go_wp2
        go_loopw [8, 30] (fun _ i wr => ∃ j : Nat, j ≤ ks.length ∧ i = .int .i64 j ∧ Hid (loopsEs g fs (ks.drop j) = loopsE g fs (.mk k a b c d t ks)) ∧ Box2 A (some ad) g.length cp ks.length kcp k a b c d t w wr) (fun _ i _ => ks.length - (intOf i).toNat)
        case atStart => exact ⟨0, by omega, rfl, HXX, hw1⟩
        case round =>
          clear hw1 HXX hbox
          obtain ⟨j, hj, rfl, HR, hwr⟩ := hrel
          have hbel := hwr.bel
          have hz := hbel.size
          have q0 : wr.cell? ⟨w.heap.size, 0, none⟩ = some (.slice A g.length cp) := hwr.x3.cell 0
          have hl3 := hwr.x3.lt
          have hl5 := hwr.x5.lt
          by_cases hjk : j < ks.length
          · obtain ⟨ad2, k', a', b', c', d', t', ks', A', cp', hA2, hab, hej, hE', ⟨e0, e1, e2, e3, e4, e5, e6⟩⟩ := (HE.out.on hbel).kid hjk
            injection hA2 with hA2
            subst hA2
            have hcall := fun W (hW : Below w.heap.size wr W) => HLO.out j k' a' b' c' d' t' ks' A' cp' W (hbel.trans hW) hej (hE'.on hW)
            have HC := Lib.hid hcall
            have HD := Lib.hid (drop_of hej)
            have HRS : Hid (loopsEs g fs (ks.drop j) = (loopsE g fs (.mk k' a' b' c' d' t' ks') || loopsEs g fs (ks.drop (j + 1)))) := by show _ = _; rw [HD.out, loopsEs]
            generalize loopsE g fs (.mk k' a' b' c' d' t' ks') = z at HC HRS
            clear hcall hej hE'
            go_wp2_with fail
            refine (HC.out _ (by repeat (first | exact Below.refl _ _ | assumption | refine Below.drew ?_ | refine below_drewN ?_ _ | refine Below.alloc ?_ (by first | omega | (simp; omega) | simp) _ | refine Below.setCell ?_ (by first | omega | (simp; omega) | simp) _))).mono ?_
            rintro e w2 ⟨rfl, hb2⟩
            have hw2 := (hwr.alloc _).step hb2 (Nat.le_refl _)
            have hbel2 := hw2.bel
            clear hb2 hwr
            cases z
            · have HN : Hid (loopsEs g fs (ks.drop (j + 1)) = loopsE g fs (.mk k a b c d t ks)) := by show _ = _; rw [← HR.out, HRS.out, Bool.false_or]
              clear HRS
              go_wp2
              go_roundw
              case rel => exact ⟨j + 1, by omega, by go_num, HN, hw2⟩
              case measure => simp [intOf]; omega
            · have HN : Hid (loopsE g fs (.mk k a b c d t ks) = true) := by show _ = _; rw [← HR.out, HRS.out, Bool.true_or]
              clear HRS
              go_wp2
              go_ret
              exact ⟨ret_bool HN.out.symm, hbel2⟩
          · obtain rfl : j = ks.length := by omega
            have HN : Hid (loopsE g fs (.mk k a b c d t ks) = false) := by show _ = _; rw [← HR.out, List.drop_length, loopsEs]
            go_wp2
            go_ret
            exact ⟨ret_bool HN.out.symm, hbel⟩
      · have HN := Lib.hid (HX2.out.trans (by rw [hxe, Bool.true_or]))
        clear hxe HX2 hfe
        go_wp2
        go_ret
        exact ⟨ret_bool HN.out.symm, hbw⟩
  · have hz1 : (k == 7) = false := by rw [beq_eq_false_iff_ne]; omega
    have hz2 : (k == 8) = false := by rw [beq_eq_false_iff_ne]; omega
    have HXX : Hid (loopsEs g fs (ks.drop 0) = loopsE g fs (.mk k a b c d t ks)) := by show _ = _; rw [HX.out, hz1, hz2]; simp
    clear h78 h18
    go_enter Try.func55, Try.ntmps55
    go_wp2_with fail
    refine wp_region_q (Box2 A KA g.length cp ks.length kcp k a b c d t w) (by kernel_rfl) (by kernel_rfl) hbox.drew ?_
    repeat
      (first | ((with_reducible apply QW.free rfl); · (intro W hW; have q1 := hW.x3.cell 0; have q2 := hW.x5.cell 0; have q3 := hW.x5.cell 6; go_simp; first | rfl)) | ((with_reducible apply QW.skip rfl); · (first | exact ⟨_, _, rfl, rfl, .inl rfl⟩ | exact ⟨_, _, rfl, rfl, .inr rfl⟩)) | ((with_reducible apply QW.take rfl); (· exact ⟨_, rfl, rfl⟩); (· (intro W hW; have q1 := hW.x3.cell 0; have q2 := hW.x5.cell 0; have q3 := hW.x5.cell 6; go_simp; first | rfl)))); (try simp only [Act.put, List.setIfInBounds_toArray, List.set_cons_zero, List.set_cons_succ])
    refine QW.nil ?_
    intro w1 hw1
    have qq : w1.cell? ⟨w.heap.size + 1, 6, none⟩ = some (.slice KA ks.length kcp) := hw1.x5.cell 6
    go_wp2
    go_loopw [8, 30] (fun _ i wr => ∃ j : Nat, j ≤ ks.length ∧ i = .int .i64 j ∧ Hid (loopsEs g fs (ks.drop j) = loopsE g fs (.mk k a b c d t ks)) ∧ Box2 A KA g.length cp ks.length kcp k a b c d t w wr) (fun _ i _ => ks.length - (intOf i).toNat)
    case atStart => exact ⟨0, by omega, rfl, HXX, hw1⟩
    case round =>
      clear hw1 HXX hbox HX
      obtain ⟨j, hj, rfl, HR, hwr⟩ := hrel
      have hbel := hwr.bel
      have hz := hbel.size
      have q0 : wr.cell? ⟨w.heap.size, 0, none⟩ = some (.slice A g.length cp) := hwr.x3.cell 0
      have hl3 := hwr.x3.lt
      have hl5 := hwr.x5.lt
      by_cases hjk : j < ks.length
      · obtain ⟨ad, k', a', b', c', d', t', ks', A', cp', rfl, hab, hej, hE', ⟨e0, e1, e2, e3, e4, e5, e6⟩⟩ := (HE.out.on hbel).kid hjk
        have hcall := fun W (hW : Below w.heap.size wr W) => HLO.out j k' a' b' c' d' t' ks' A' cp' W (hbel.trans hW) hej (hE'.on hW)
        have HC := Lib.hid hcall
        have HD := Lib.hid (drop_of hej)
        have HRS : Hid (loopsEs g fs (ks.drop j) = (loopsE g fs (.mk k' a' b' c' d' t' ks') || loopsEs g fs (ks.drop (j + 1)))) := by show _ = _; rw [HD.out, loopsEs]
        generalize loopsE g fs (.mk k' a' b' c' d' t' ks') = z at HC HRS
        clear hcall hej hE'
        go_wp2_with fail
        refine (HC.out _ (by repeat (first | exact Below.refl _ _ | assumption | refine Below.drew ?_ | refine below_drewN ?_ _ | refine Below.alloc ?_ (by first | omega | (simp; omega) | simp) _ | refine Below.setCell ?_ (by first | omega | (simp; omega) | simp) _))).mono ?_
        rintro e w2 ⟨rfl, hb2⟩
        have hw2 := (hwr.alloc _).step hb2 (Nat.le_refl _)
        have hbel2 := hw2.bel
        clear hb2 hwr
        cases z
        · have HN : Hid (loopsEs g fs (ks.drop (j + 1)) = loopsE g fs (.mk k a b c d t ks)) := by show _ = _; rw [← HR.out, HRS.out, Bool.false_or]
          clear HRS
          go_wp2
          go_roundw
          case rel => exact ⟨j + 1, by omega, by go_num, HN, hw2⟩
          case measure => simp [intOf]; omega
        · have HN : Hid (loopsE g fs (.mk k a b c d t ks) = true) := by show _ = _; rw [← HR.out, HRS.out, Bool.true_or]
          clear HRS
          go_wp2
          go_ret
          exact ⟨ret_bool HN.out.symm, hbel2⟩
      · obtain rfl : j = ks.length := by omega
        have HN : Hid (loopsE g fs (.mk k a b c d t ks) = false) := by show _ = _; rw [← HR.out, List.drop_length, loopsEs]
        go_wp2
        go_ret
        exact ⟨ret_bool HN.out.symm, hbel⟩
end Go.Proofs.Ytjmckmjngnmagaa
