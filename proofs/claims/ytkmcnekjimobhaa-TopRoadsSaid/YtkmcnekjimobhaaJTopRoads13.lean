/- The writer of code.Make: expressions of one kid. The writer of code.Make: literals, names; every right expression. How deep an expression is: plain. -/
import Derived.Test.YtkmcnekjimobhaaJTopRoads12
import Derived.Test.YtkmcnekjimobhaaJTopRoads7
namespace Go.Proofs.Ytkmcnekjimobhaa
set_option maxHeartbeats 8000000
set_option maxRecDepth 100000
open Go.RowKit
def OneKid2 (B : Nat) (KA : Option Addr) (e : Ex) (w : World) : Prop := ∃ (ad : Addr) (k' a' b' c' d' : Int) (t' : ByteArray) (ks' : List Ex) (A' : Option Addr) (cp' : Nat), KA = some ad /\ ad.block < B /\ e = .mk k' a' b' c' d' t' ks' /\ ∀ W, Below B w W -> ExIs W B (.mk k' a' b' c' d' t' ks') (exCells k' a' b' c' d' t' A' ks'.length cp') /\ Seven W ad k' a' b' c' d' t' A' ks'.length cp'
theorem oneKid2_of {B : Nat} {w : World} {k a b c d : Int} {t : ByteArray} {e : Ex} {KA : Option Addr} {kcp : Nat} (hE : ExIs w B (.mk k a b c d t [e]) (exCells k a b c d t KA 1 kcp)) : OneKid2 B KA e w := by
  obtain ⟨ad, k', a', b', c', d', t', ks', A', cp', h1, hab, hej, hE', hS⟩ := hE.kid (j := 0) (by simp)
  rw [Nat.zero_mul] at hS
  exact ⟨ad, k', a', b', c', d', t', ks', A', cp', h1, hab, by simpa using hej, fun W hW => ⟨hE'.on hW, hS.keep (w' := W) fun q hq => hW.cell (by rw [hq]; exact hab)⟩⟩
theorem WrI.outCell {w : World} {wb base : Nat} {gv ov cv : Value} {l : List In} {cs : List Nat} {n : Nat} (h : WrI w wb base gv ov cv l cs) (hn : l.length = n) : ∃ V c, w.cell? ⟨wb, 1, none⟩ = some (.slice V n c) := by
  obtain ⟨V, c, rfl⟩ := h.outForm
  exact ⟨V, c, by rw [<- hn]; exact h.box.cell 1⟩
theorem cK_1 {g : List Rl} {ad : Nat -> Nat} {k a b c d : Int} {t : ByteArray} {e : Ex} {p : Nat} (h7 : 7 <= k) : cE g ad (.mk k a b c d t [e]) p = cK g ad [e] k p := by
  rw [cE, if_neg (by omega), if_neg (by omega), if_neg (by omega), if_neg (by omega), if_neg (by omega)]
theorem lK_1 {k a b c d : Int} {t : ByteArray} {e : Ex} (h7 : 7 <= k) : lE (.mk k a b c d t [e]) = lK [e] k := by
  rw [lE, if_neg (by omega), if_neg (by omega), if_neg (by omega), if_neg (by omega), if_neg (by omega)]
theorem wex_7 {g : List Rl} {gv : Value} {B : Nat} {A : Option Addr} {cp : Nat} {row : Nat -> List Value} {a b d1 d2 : Int} {t : ByteArray} {e : Ex} (he : WExpr g gv B A cp row e) : WEx g gv B A cp row 7 a b d1 d2 t [e] := by
  intro cs w wb base ov cv l cl hE hG hW hB hl hcl
  obtain ⟨ht, KA, kcp, rfl, hkc, hkm, _⟩ := hE.shape
  have hkl : ([e] : List Ex).length = 1 := rfl
  rw [hkl] at hE hkc ⊢
  clear hkl
  obtain ⟨ad, k', a', b', c', d', t', ks', A', cp', rfl, hab, hee, hK⟩ := oneKid2_of hE
  unfold exCells
  have hlE : lE (.mk 7 a b d1 d2 t [e]) = lE e + 2 := by rw [lK_1 (by omega), lK]; rfl
  rw [hlE] at hl
  rw [cK_1 (by omega)]
  have hlo := hW.lo
  have hs0 := run_set0
  have hS := (WrS.start hW).alloc (.cells #[.int .i64 7, .int .u64 a, .int .u64 b, .int .u64 d1, .int .u64 d2, .string t, .slice (some ad) 1 kcp] 37)
  have hbx : Blk (w.alloc (.cells #[.int .i64 7, .int .u64 a, .int .u64 b, .int .u64 d1, .int .u64 d2, .string t, .slice (some ad) 1 kcp] 37)) w.heap.size 37 #[.int .i64 7, .int .u64 a, .int .u64 b, .int .u64 d1, .int .u64 d2, .string t, .slice (some ad) 1 kcp] := blk_at rfl
  generalize hQ : WrQ wb base gv ov cv (l ++ cK g id [e] 7 l.length) (cl ++ cpos l.length (cK g id [e] 7 l.length)) w = Q
  have HQ := Lib.hid hQ
  have HG := Lib.hid hG
  have HW := Lib.hid hW
  have HX := Lib.hid he
  have HST := Lib.hid (wstar_any he)
  have HK := Lib.hid hK
  have HEE := Lib.hid hee
  clear hQ hE hG hW he hK hlE hee
  go_enter Try.func52, Try.ntmps52
  go_upto_region 24 with fail
  generalize (w.alloc (.cells #[.int .i64 7, .int .u64 a, .int .u64 b, .int .u64 d1, .int .u64 d2, .string t, .slice (some ad) 1 kcp] 37)) = w0 at hS hbx ⊢
  have HS0 := Lib.hid hS
  have HB0 := Lib.hid hbx
  clear hS hbx
  have hlow0 := HS0.out.low HW.out hB
  obtain ⟨hE0, ⟨s0, s1, s2, s3, s4, s5, s6⟩⟩ := HK.out w0 hlow0
  have y6 : w0.cell? ⟨w.heap.size, 6, none⟩ = some (.slice (some ad) 1 kcp) := HB0.out.cell 6
  have hx1 := HST.out _ w0 wb base ov cv l cl (by rw [HEE.out]; exact hE0) (HG.out.on hlow0) HS0.out.wr hB (by first | omega | (rw [HN0.out]; omega)) (by first | omega | (rw [HN0.out, List.length_append]; have := cpos_len l.length (cE g id e l.length); rw [cE_len] at this; omega))
  unfold exCells at hx1
  have HXX := Lib.hid hx1
  clear hx1 hE0 hlow0
  go_wp2_with fail
  refine HXX.out.mono ?_
  rintro e1 w1 ⟨rfl, ov1, cv1, hw1, hm1, hm21, hk1⟩
  have hS1 := HS0.out.more hw1 hm1 hm21 hk1
  have HS1 := Lib.hid hS1
  clear hw1 hm1 hm21 hk1 hS1 HXX HS0 HB0 s0 s1 s2 s3 s4 s5 s6 y6
  have hF : Q (.returned (.tuple #[])) w1 := by
    rw [<- HQ.out]
    have h1 := HS1.out.done
    rw [cK, if_pos rfl]
    exact h1
  have HF := Lib.hid hF
  clear hF HS1 HQ
  go_wp2
  go_end0
  exact HF.out
theorem wex_8 {g : List Rl} {gv : Value} {B : Nat} {A : Option Addr} {cp : Nat} {row : Nat -> List Value} {a b d1 d2 : Int} {t : ByteArray} {e : Ex} (he : WExpr g gv B A cp row e) : WEx g gv B A cp row 8 a b d1 d2 t [e] := by
  intro cs w wb base ov cv l cl hE hG hW hB hl hcl
  obtain ⟨ht, KA, kcp, rfl, hkc, hkm, _⟩ := hE.shape
  have hkl : ([e] : List Ex).length = 1 := rfl
  rw [hkl] at hE hkc ⊢
  clear hkl
  obtain ⟨ad, k', a', b', c', d', t', ks', A', cp', rfl, hab, hee, hK⟩ := oneKid2_of hE
  unfold exCells
  have hlE : lE (.mk 8 a b d1 d2 t [e]) = lE e + (lE e + 2) := by rw [lK_1 (by omega), lK]; rfl
  rw [hlE] at hl
  rw [cK_1 (by omega)]
  have hlo := hW.lo
  have hs0 := run_set0
  have hS := (WrS.start hW).alloc (.cells #[.int .i64 8, .int .u64 a, .int .u64 b, .int .u64 d1, .int .u64 d2, .string t, .slice (some ad) 1 kcp] 37)
  have hbx : Blk (w.alloc (.cells #[.int .i64 8, .int .u64 a, .int .u64 b, .int .u64 d1, .int .u64 d2, .string t, .slice (some ad) 1 kcp] 37)) w.heap.size 37 #[.int .i64 8, .int .u64 a, .int .u64 b, .int .u64 d1, .int .u64 d2, .string t, .slice (some ad) 1 kcp] := blk_at rfl
  generalize hQ : WrQ wb base gv ov cv (l ++ cK g id [e] 8 l.length) (cl ++ cpos l.length (cK g id [e] 8 l.length)) w = Q
  have HQ := Lib.hid hQ
  have HG := Lib.hid hG
  have HW := Lib.hid hW
  have HX := Lib.hid he
  have HST := Lib.hid (wstar_any he)
  have HK := Lib.hid hK
  have HEE := Lib.hid hee
  clear hQ hE hG hW he hK hlE hee
  go_enter Try.func52, Try.ntmps52
  go_upto_region 21 with fail
  generalize (w.alloc (.cells #[.int .i64 8, .int .u64 a, .int .u64 b, .int .u64 d1, .int .u64 d2, .string t, .slice (some ad) 1 kcp] 37)) = w0 at hS hbx ⊢
  have HS0 := Lib.hid hS
  have HB0 := Lib.hid hbx
  clear hS hbx
  have hlow0 := HS0.out.low HW.out hB
  obtain ⟨hE0, ⟨s0, s1, s2, s3, s4, s5, s6⟩⟩ := HK.out w0 hlow0
  have y6 : w0.cell? ⟨w.heap.size, 6, none⟩ = some (.slice (some ad) 1 kcp) := HB0.out.cell 6
  have hx1 := HX.out _ w0 wb base ov cv l cl (by rw [HEE.out]; exact hE0) (HG.out.on hlow0) HS0.out.wr hB (by first | omega | (rw [HN0.out]; omega)) (by first | omega | (rw [HN0.out]; omega))
  unfold exCells at hx1
  have HXX := Lib.hid hx1
  clear hx1 hE0 hlow0
  go_wp2_with fail
  refine HXX.out.mono ?_
  rintro e1 w1 ⟨rfl, ov1, cv1, hw1, hm1, hm21, hk1⟩
  have hb1 := HS0.out.wr.keepBox HB0.out hk1
  have hS1 := HS0.out.more hw1 hm1 hm21 hk1
  obtain ⟨n1, hn1⟩ : ∃ n, n = l.length + lE e := ⟨_, rfl⟩
  have HN1 : Hid ((l ++ cE g id e l.length).length = n1) := by
    show _ = _
    rw [hn1, List.length_append, cE_len]
  have HS1 := Lib.hid hS1
  have HB1 := Lib.hid hb1
  have HE1 := Lib.hid hn1
  have hq1 : n1 <= l.length + lE e := by omega
  have hv1 : l.length + lE e <= n1 := by omega
  clear hn1 hw1 hm1 hm21 hk1 hb1 hS1 HXX HS0 HB0 s0 s1 s2 s3 s4 s5 s6 y6
  have hlow1 := HS1.out.low HW.out hB
  obtain ⟨hE1, ⟨s0, s1, s2, s3, s4, s5, s6⟩⟩ := HK.out w1 hlow1
  have y6 : w1.cell? ⟨w.heap.size, 6, none⟩ = some (.slice (some ad) 1 kcp) := HB1.out.cell 6
  have hx2 := HST.out _ w1 wb base ov1 cv1 (l ++ cE g id e l.length) (cl ++ cpos l.length (cE g id e l.length)) (by rw [HEE.out]; exact hE1) (HG.out.on hlow1) HS1.out.wr hB (by first | omega | (rw [HN1.out]; omega)) (by first | omega | (rw [HN1.out, List.length_append]; have := cpos_len l.length (cE g id e l.length); rw [cE_len] at this; omega))
  rw [HN1.out] at hx2
  unfold exCells at hx2
  have HXX := Lib.hid hx2
  clear hx2 hE1 hlow1
  go_wp2_with fail
  refine HXX.out.mono ?_
  rintro e2 w2 ⟨rfl, ov2, cv2, hw2, hm2, hm22, hk2⟩
  have hS2 := HS1.out.more hw2 hm2 hm22 hk2
  have HS2 := Lib.hid hS2
  clear hw2 hm2 hm22 hk2 hS2 HXX HS1 HB1 s0 s1 s2 s3 s4 s5 s6 y6
  have hF : Q (.returned (.tuple #[])) w2 := by
    rw [<- HQ.out]
    have h1 := HS2.out.done
    have h8 := HE1.out
    rw [cK, if_neg (by decide), if_pos rfl]
    rw [h8] at h1
    rw [cpos_app, cE_len, <- List.append_assoc, <- List.append_assoc]
    exact h1
  have HF := Lib.hid hF
  clear hF HS2 HQ
  go_wp2
  go_end0
  exact HF.out
theorem wex_9 {g : List Rl} {gv : Value} {B : Nat} {A : Option Addr} {cp : Nat} {row : Nat -> List Value} {a b d1 d2 : Int} {t : ByteArray} {e : Ex} (he : WExpr g gv B A cp row e) : WEx g gv B A cp row 9 a b d1 d2 t [e] := by
  intro cs w wb base ov cv l cl hE hG hW hB hl hcl
  obtain ⟨ht, KA, kcp, rfl, hkc, hkm, _⟩ := hE.shape
  have hkl : ([e] : List Ex).length = 1 := rfl
  rw [hkl] at hE hkc ⊢
  clear hkl
  obtain ⟨ad, k', a', b', c', d', t', ks', A', cp', rfl, hab, hee, hK⟩ := oneKid2_of hE
  unfold exCells
  have hlE : lE (.mk 9 a b d1 d2 t [e]) = lE e + 2 := by rw [lK_1 (by omega), lK]; rfl
  rw [hlE] at hl
  rw [cK_1 (by omega)]
  have hlo := hW.lo
  have hs0 := run_set0
  have hS := (WrS.start hW).alloc (.cells #[.int .i64 9, .int .u64 a, .int .u64 b, .int .u64 d1, .int .u64 d2, .string t, .slice (some ad) 1 kcp] 37)
  have hbx : Blk (w.alloc (.cells #[.int .i64 9, .int .u64 a, .int .u64 b, .int .u64 d1, .int .u64 d2, .string t, .slice (some ad) 1 kcp] 37)) w.heap.size 37 #[.int .i64 9, .int .u64 a, .int .u64 b, .int .u64 d1, .int .u64 d2, .string t, .slice (some ad) 1 kcp] := blk_at rfl
  generalize hQ : WrQ wb base gv ov cv (l ++ cK g id [e] 9 l.length) (cl ++ cpos l.length (cK g id [e] 9 l.length)) w = Q
  have HQ := Lib.hid hQ
  have HG := Lib.hid hG
  have HW := Lib.hid hW
  have HX := Lib.hid he
  have HST := Lib.hid (wstar_any he)
  have HK := Lib.hid hK
  have HEE := Lib.hid hee
  clear hQ hE hG hW he hK hlE hee
  go_enter Try.func52, Try.ntmps52
  go_upto_region 26 with fail
  generalize (w.alloc (.cells #[.int .i64 9, .int .u64 a, .int .u64 b, .int .u64 d1, .int .u64 d2, .string t, .slice (some ad) 1 kcp] 37)) = w0 at hS hbx ⊢
  have HS0 := Lib.hid hS
  have HB0 := Lib.hid hbx
  clear hS hbx
  have hp1 := put_any HS0.out.wr (by first | omega | (rw [HN0.out]; omega)) 3 (0) 0 0 0 0
  have HP1 := Lib.hid hp1
  clear hp1
  go_wp2_with fail
  refine HP1.out.mono ?_
  rintro e1 w1 ⟨he1, ov1, hw1, hm1, hk1⟩
  subst he1
  have hb1 := HS0.out.wr.keepBox HB0.out (hk1.less (o2 := cv.ownBlock))
  have hS1 := HS0.out.more hw1 hm1 (Mvd.refl _ _) (hk1.less (o2 := cv.ownBlock))
  obtain ⟨n1, hn1⟩ : ∃ n, n = l.length + 1 := ⟨_, rfl⟩
  have HN1 : Hid ((l ++ [(⟨3, 0, 0, 0, 0, 0⟩ : In)]).length = n1) := by
    show _ = _
    rw [hn1, List.length_append]
    rfl
  have HS1 := Lib.hid hS1
  have HB1 := Lib.hid hb1
  have HE1 := Lib.hid hn1
  have hq1 : n1 <= l.length + 1 := by omega
  have hv1 : l.length + 1 <= n1 := by omega
  clear hn1 hw1 hm1 hk1 hb1 hS1 HP1 HS0 HB0
  have hlow1 := HS1.out.low HW.out hB
  obtain ⟨hE1, ⟨s0, s1, s2, s3, s4, s5, s6⟩⟩ := HK.out w1 hlow1
  have y6 : w1.cell? ⟨w.heap.size, 6, none⟩ = some (.slice (some ad) 1 kcp) := HB1.out.cell 6
  have hx2 := HX.out _ w1 wb base ov1 cv (l ++ [(⟨3, 0, 0, 0, 0, 0⟩ : In)]) cl (by rw [HEE.out]; exact hE1) (HG.out.on hlow1) HS1.out.wr hB (by first | omega | (rw [HN1.out]; omega)) (by first | omega | (rw [HN1.out]; omega))
  rw [HN1.out] at hx2
  unfold exCells at hx2
  have HXX := Lib.hid hx2
  clear hx2 hE1 hlow1
  go_wp2_with fail
  refine HXX.out.mono ?_
  rintro e2 w2 ⟨rfl, ov2, cv2, hw2, hm2, hm22, hk2⟩
  have hb2 := HS1.out.wr.keepBox HB1.out hk2
  have hS2 := HS1.out.more hw2 hm2 hm22 hk2
  obtain ⟨n2, hn2⟩ : ∃ n, n = n1 + lE e := ⟨_, rfl⟩
  have HN2 : Hid (((l ++ [(⟨3, 0, 0, 0, 0, 0⟩ : In)]) ++ cE g id e n1).length = n2) := by
    show _ = _
    rw [hn2, List.length_append, cE_len, HN1.out]
  have HS2 := Lib.hid hS2
  have HB2 := Lib.hid hb2
  have HE2 := Lib.hid hn2
  have hq2 : n2 <= l.length + 1 + lE e := by omega
  have hv2 : l.length + 1 + lE e <= n2 := by omega
  clear hn2 hw2 hm2 hm22 hk2 hb2 hS2 HXX HS1 HB1 s0 s1 s2 s3 s4 s5 s6 y6
  obtain ⟨V2, c2, yo2⟩ := HS2.out.wr.outCell HN2.out
  have hp3 := put_any HS2.out.wr (by first | omega | (rw [HN2.out]; omega)) 4 ((n2 : Int) + 1) 0 0 0 0
  have HP3 := Lib.hid hp3
  clear hp3
  go_wp2_with fail
  refine HP3.out.mono ?_
  rintro e3 w3 ⟨he3, ov3, hw3, hm3, hk3⟩
  rw [HN2.out] at he3
  subst he3
  have hb3 := HS2.out.wr.keepBox HB2.out (hk3.less (o2 := cv2.ownBlock))
  have hS3 := HS2.out.more hw3 hm3 (Mvd.refl _ _) (hk3.less (o2 := cv2.ownBlock))
  obtain ⟨n3, hn3⟩ : ∃ n, n = n2 + 1 := ⟨_, rfl⟩
  have HN3 : Hid ((((l ++ [(⟨3, 0, 0, 0, 0, 0⟩ : In)]) ++ cE g id e n1) ++ [(⟨4, (n2 : Int) + 1, 0, 0, 0, 0⟩ : In)]).length = n3) := by
    show _ = _
    rw [hn3, List.length_append, HN2.out]
    rfl
  have HS3 := Lib.hid hS3
  have HB3 := Lib.hid hb3
  have HE3 := Lib.hid hn3
  have hq3 : n3 <= l.length + 1 + lE e + 1 := by omega
  have hv3 : l.length + 1 + lE e + 1 <= n3 := by omega
  clear hn3 hw3 hm3 hk3 hb3 hS3 HP3 HS2 HB2
  have hh4 := here_any HS3.out.wr (i := l.length) (by rw [HN3.out]; have h1 := HE1.out; have h2 := HE2.out; have h3 := HE3.out; omega)
  have HH4 := Lib.hid hh4
  clear hh4
  go_wp2_with fail
  refine HH4.out.mono ?_
  rintro e4 w4 hq4
  have hb4 := HS3.out.wr.keepBox HB3.out (hq4.2.2.less (o2 := cv2.ownBlock))
  obtain ⟨rfl, hS4⟩ := HS3.out.here hq4
  rw [HN3.out] at hS4
  have HS4 := Lib.hid hS4
  have HB4 := Lib.hid hb4
  have HN4 : Hid ((setN (((l ++ [(⟨3, 0, 0, 0, 0, 0⟩ : In)]) ++ cE g id e n1) ++ [(⟨4, (n2 : Int) + 1, 0, 0, 0, 0⟩ : In)]) l.length (n3 : Int)).length = n3) := by
    show _ = _
    rw [setN_len]
    exact HN3.out
  clear hq4 hS4 hb4 HS3 HB3 HH4
  have hF : Q (.returned (.tuple #[])) w4 := by
    rw [<- HQ.out]
    have h1 := HS4.out.done
    have h2 := HE1.out
    have h3 := HE2.out
    have h4 := HE3.out
    have h33 : ∀ n, ¬ ((iN 3 n).op = 5) := fun n => (by decide : ¬ ((3 : Int) = 5))
    rw [cK, if_neg (by decide), if_neg (by decide), if_pos rfl]
    rw [cpos, if_neg (h33 _), cpos_app, cpos_none _ (iN 4 _) (show ((4 : Int)) ≠ 5 by decide), List.append_nil]
    have e1 : (l ++ [(⟨3, 0, 0, 0, 0, 0⟩ : In)] ++ cE g id e n1 ++ [(⟨4, (n2 : Int) + 1, 0, 0, 0, 0⟩ : In)]) = l ++ (⟨3, 0, 0, 0, 0, 0⟩ : In) :: (cE g id e n1 ++ [(⟨4, (n2 : Int) + 1, 0, 0, 0, 0⟩ : In)]) := by simp
    rw [e1, setN_at _ _ _ _ rfl, h2] at h1
    have e2 : iN 3 ((l.length + 2 + lE e : Nat) : Int) = (⟨3, (n3 : Int), 0, 0, 0, 0⟩ : In) := by unfold iN; congr 1; omega
    have e3 : iN 4 ((l.length + 2 + lE e : Nat) : Int) = (⟨4, (n2 : Int) + 1, 0, 0, 0, 0⟩ : In) := by unfold iN; congr 1; omega
    rw [e2, e3]
    exact h1
  have HF := Lib.hid hF
  clear hF HS4 HQ
  go_wp2
  go_end0
  exact HF.out
theorem wex_10 {g : List Rl} {gv : Value} {B : Nat} {A : Option Addr} {cp : Nat} {row : Nat -> List Value} {a b d1 d2 : Int} {t : ByteArray} {e : Ex} (he : WExpr g gv B A cp row e) : WEx g gv B A cp row 10 a b d1 d2 t [e] := by
  intro cs w wb base ov cv l cl hE hG hW hB hl hcl
  obtain ⟨ht, KA, kcp, rfl, hkc, hkm, _⟩ := hE.shape
  have hkl : ([e] : List Ex).length = 1 := rfl
  rw [hkl] at hE hkc ⊢
  clear hkl
  obtain ⟨ad, k', a', b', c', d', t', ks', A', cp', rfl, hab, hee, hK⟩ := oneKid2_of hE
  unfold exCells
  have hlE : lE (.mk 10 a b d1 d2 t [e]) = lE e + 3 := by rw [lK_1 (by omega), lK]; rfl
  rw [hlE] at hl
  rw [cK_1 (by omega)]
  have hlo := hW.lo
  have hs0 := run_set0
  have hS := (WrS.start hW).alloc (.cells #[.int .i64 10, .int .u64 a, .int .u64 b, .int .u64 d1, .int .u64 d2, .string t, .slice (some ad) 1 kcp] 37)
  have hbx : Blk (w.alloc (.cells #[.int .i64 10, .int .u64 a, .int .u64 b, .int .u64 d1, .int .u64 d2, .string t, .slice (some ad) 1 kcp] 37)) w.heap.size 37 #[.int .i64 10, .int .u64 a, .int .u64 b, .int .u64 d1, .int .u64 d2, .string t, .slice (some ad) 1 kcp] := blk_at rfl
  generalize hQ : WrQ wb base gv ov cv (l ++ cK g id [e] 10 l.length) (cl ++ cpos l.length (cK g id [e] 10 l.length)) w = Q
  have HQ := Lib.hid hQ
  have HG := Lib.hid hG
  have HW := Lib.hid hW
  have HX := Lib.hid he
  have HST := Lib.hid (wstar_any he)
  have HK := Lib.hid hK
  have HEE := Lib.hid hee
  clear hQ hE hG hW he hK hlE hee
  go_enter Try.func52, Try.ntmps52
  go_upto_region 31 with fail
  generalize (w.alloc (.cells #[.int .i64 10, .int .u64 a, .int .u64 b, .int .u64 d1, .int .u64 d2, .string t, .slice (some ad) 1 kcp] 37)) = w0 at hS hbx ⊢
  have HS0 := Lib.hid hS
  have HB0 := Lib.hid hbx
  clear hS hbx
  have hp1 := put_any HS0.out.wr (by first | omega | (rw [HN0.out]; omega)) 3 (0) 0 0 0 0
  have HP1 := Lib.hid hp1
  clear hp1
  go_wp2_with fail
  refine HP1.out.mono ?_
  rintro e1 w1 ⟨he1, ov1, hw1, hm1, hk1⟩
  subst he1
  have hb1 := HS0.out.wr.keepBox HB0.out (hk1.less (o2 := cv.ownBlock))
  have hS1 := HS0.out.more hw1 hm1 (Mvd.refl _ _) (hk1.less (o2 := cv.ownBlock))
  obtain ⟨n1, hn1⟩ : ∃ n, n = l.length + 1 := ⟨_, rfl⟩
  have HN1 : Hid ((l ++ [(⟨3, 0, 0, 0, 0, 0⟩ : In)]).length = n1) := by
    show _ = _
    rw [hn1, List.length_append]
    rfl
  have HS1 := Lib.hid hS1
  have HB1 := Lib.hid hb1
  have HE1 := Lib.hid hn1
  have hq1 : n1 <= l.length + 1 := by omega
  have hv1 : l.length + 1 <= n1 := by omega
  clear hn1 hw1 hm1 hk1 hb1 hS1 HP1 HS0 HB0
  have hlow1 := HS1.out.low HW.out hB
  obtain ⟨hE1, ⟨s0, s1, s2, s3, s4, s5, s6⟩⟩ := HK.out w1 hlow1
  have y6 : w1.cell? ⟨w.heap.size, 6, none⟩ = some (.slice (some ad) 1 kcp) := HB1.out.cell 6
  have hx2 := HX.out _ w1 wb base ov1 cv (l ++ [(⟨3, 0, 0, 0, 0, 0⟩ : In)]) cl (by rw [HEE.out]; exact hE1) (HG.out.on hlow1) HS1.out.wr hB (by first | omega | (rw [HN1.out]; omega)) (by first | omega | (rw [HN1.out]; omega))
  rw [HN1.out] at hx2
  unfold exCells at hx2
  have HXX := Lib.hid hx2
  clear hx2 hE1 hlow1
  go_wp2_with fail
  refine HXX.out.mono ?_
  rintro e2 w2 ⟨rfl, ov2, cv2, hw2, hm2, hm22, hk2⟩
  have hb2 := HS1.out.wr.keepBox HB1.out hk2
  have hS2 := HS1.out.more hw2 hm2 hm22 hk2
  obtain ⟨n2, hn2⟩ : ∃ n, n = n1 + lE e := ⟨_, rfl⟩
  have HN2 : Hid (((l ++ [(⟨3, 0, 0, 0, 0, 0⟩ : In)]) ++ cE g id e n1).length = n2) := by
    show _ = _
    rw [hn2, List.length_append, cE_len, HN1.out]
  have HS2 := Lib.hid hS2
  have HB2 := Lib.hid hb2
  have HE2 := Lib.hid hn2
  have hq2 : n2 <= l.length + 1 + lE e := by omega
  have hv2 : l.length + 1 + lE e <= n2 := by omega
  clear hn2 hw2 hm2 hm22 hk2 hb2 hS2 HXX HS1 HB1 s0 s1 s2 s3 s4 s5 s6 y6
  obtain ⟨V2, c2, yo2⟩ := HS2.out.wr.outCell HN2.out
  have hp3 := put_any HS2.out.wr (by first | omega | (rw [HN2.out]; omega)) 10 ((n2 : Int) + 2) 0 0 0 0
  have HP3 := Lib.hid hp3
  clear hp3
  go_wp2_with fail
  refine HP3.out.mono ?_
  rintro e3 w3 ⟨he3, ov3, hw3, hm3, hk3⟩
  rw [HN2.out] at he3
  subst he3
  have hb3 := HS2.out.wr.keepBox HB2.out (hk3.less (o2 := cv2.ownBlock))
  have hS3 := HS2.out.more hw3 hm3 (Mvd.refl _ _) (hk3.less (o2 := cv2.ownBlock))
  obtain ⟨n3, hn3⟩ : ∃ n, n = n2 + 1 := ⟨_, rfl⟩
  have HN3 : Hid ((((l ++ [(⟨3, 0, 0, 0, 0, 0⟩ : In)]) ++ cE g id e n1) ++ [(⟨10, (n2 : Int) + 2, 0, 0, 0, 0⟩ : In)]).length = n3) := by
    show _ = _
    rw [hn3, List.length_append, HN2.out]
    rfl
  have HS3 := Lib.hid hS3
  have HB3 := Lib.hid hb3
  have HE3 := Lib.hid hn3
  have hq3 : n3 <= l.length + 1 + lE e + 1 := by omega
  have hv3 : l.length + 1 + lE e + 1 <= n3 := by omega
  clear hn3 hw3 hm3 hk3 hb3 hS3 HP3 HS2 HB2
  have hh4 := here_any HS3.out.wr (i := l.length) (by rw [HN3.out]; have h1 := HE1.out; have h2 := HE2.out; have h3 := HE3.out; omega)
  have HH4 := Lib.hid hh4
  clear hh4
  go_wp2_with fail
  refine HH4.out.mono ?_
  rintro e4 w4 hq4
  have hb4 := HS3.out.wr.keepBox HB3.out (hq4.2.2.less (o2 := cv2.ownBlock))
  obtain ⟨rfl, hS4⟩ := HS3.out.here hq4
  rw [HN3.out] at hS4
  have HS4 := Lib.hid hS4
  have HB4 := Lib.hid hb4
  have HN4 : Hid ((setN (((l ++ [(⟨3, 0, 0, 0, 0, 0⟩ : In)]) ++ cE g id e n1) ++ [(⟨10, (n2 : Int) + 2, 0, 0, 0, 0⟩ : In)]) l.length (n3 : Int)).length = n3) := by
    show _ = _
    rw [setN_len]
    exact HN3.out
  clear hq4 hS4 hb4 HS3 HB3 HH4
  have hp5 := put_any HS4.out.wr (by first | omega | (rw [HN4.out]; omega)) 7 (0) 0 0 0 0
  have HP5 := Lib.hid hp5
  clear hp5
  go_wp2_with fail
  refine HP5.out.mono ?_
  rintro e5 w5 ⟨he5, ov5, hw5, hm5, hk5⟩
  rw [HN4.out] at he5
  subst he5
  have hb5 := HS4.out.wr.keepBox HB4.out (hk5.less (o2 := cv2.ownBlock))
  have hS5 := HS4.out.more hw5 hm5 (Mvd.refl _ _) (hk5.less (o2 := cv2.ownBlock))
  obtain ⟨n5, hn5⟩ : ∃ n, n = n3 + 1 := ⟨_, rfl⟩
  have HN5 : Hid (((setN (((l ++ [(⟨3, 0, 0, 0, 0, 0⟩ : In)]) ++ cE g id e n1) ++ [(⟨10, (n2 : Int) + 2, 0, 0, 0, 0⟩ : In)]) l.length (n3 : Int)) ++ [(⟨7, 0, 0, 0, 0, 0⟩ : In)]).length = n5) := by
    show _ = _
    rw [hn5, List.length_append, HN4.out]
    rfl
  have HS5 := Lib.hid hS5
  have HB5 := Lib.hid hb5
  have HE5 := Lib.hid hn5
  have hq5 : n5 <= l.length + 1 + lE e + 1 + 1 := by omega
  have hv5 : l.length + 1 + lE e + 1 + 1 <= n5 := by omega
  clear hn5 hw5 hm5 hk5 hb5 hS5 HP5 HS4 HB4
  have hF : Q (.returned (.tuple #[])) w5 := by
    rw [<- HQ.out]
    have h1 := HS5.out.done
    have h2 := HE1.out
    have h3 := HE2.out
    have h4 := HE3.out
    have h33 : ∀ n, ¬ ((iN 3 n).op = 5) := fun n => (by decide : ¬ ((3 : Int) = 5))
    have h10 : ∀ n, ¬ ((iN 10 n).op = 5) := fun n => (by decide : ¬ ((10 : Int) = 5))
    rw [cK, if_neg (by decide), if_neg (by decide), if_neg (by decide), if_pos rfl]
    rw [cpos, if_neg (h33 _), cpos_app, cpos, if_neg (h10 _), cpos_none _ (iN 7 0) (show ((7 : Int)) ≠ 5 by decide), List.append_nil]
    have e1 : (l ++ [(⟨3, 0, 0, 0, 0, 0⟩ : In)] ++ cE g id e n1 ++ [(⟨10, (n2 : Int) + 2, 0, 0, 0, 0⟩ : In)]) = l ++ (⟨3, 0, 0, 0, 0, 0⟩ : In) :: (cE g id e n1 ++ [(⟨10, (n2 : Int) + 2, 0, 0, 0, 0⟩ : In)]) := by simp
    rw [e1, setN_at _ _ _ _ rfl, h2] at h1
    have e2 : iN 3 ((l.length + 2 + lE e : Nat) : Int) = (⟨3, (n3 : Int), 0, 0, 0, 0⟩ : In) := by unfold iN; congr 1; omega
    have e3 : iN 10 ((l.length + 3 + lE e : Nat) : Int) = (⟨10, (n2 : Int) + 2, 0, 0, 0, 0⟩ : In) := by unfold iN; congr 1; omega
    have e4 : iN 7 0 = (⟨7, 0, 0, 0, 0, 0⟩ : In) := rfl
    rw [e2, e3, e4]
    simpa using h1
  have HF := Lib.hid hF
  clear hF HS5 HQ
  go_wp2
  go_end0
  exact HF.out
theorem wex_11 {g : List Rl} {gv : Value} {B : Nat} {A : Option Addr} {cp : Nat} {row : Nat -> List Value} {a b d1 d2 : Int} {t : ByteArray} {e : Ex} (he : WExpr g gv B A cp row e) : WEx g gv B A cp row 11 a b d1 d2 t [e] := by
  intro cs w wb base ov cv l cl hE hG hW hB hl hcl
  obtain ⟨ht, KA, kcp, rfl, hkc, hkm, _⟩ := hE.shape
  have hkl : ([e] : List Ex).length = 1 := rfl
  rw [hkl] at hE hkc ⊢
  clear hkl
  obtain ⟨ad, k', a', b', c', d', t', ks', A', cp', rfl, hab, hee, hK⟩ := oneKid2_of hE
  unfold exCells
  have hlE : lE (.mk 11 a b d1 d2 t [e]) = lE e + 2 := by rw [lK_1 (by omega), lK]; rfl
  rw [hlE] at hl
  rw [cK_1 (by omega)]
  have hlo := hW.lo
  have hs0 := run_set0
  have hS := (WrS.start hW).alloc (.cells #[.int .i64 11, .int .u64 a, .int .u64 b, .int .u64 d1, .int .u64 d2, .string t, .slice (some ad) 1 kcp] 37)
  have hbx : Blk (w.alloc (.cells #[.int .i64 11, .int .u64 a, .int .u64 b, .int .u64 d1, .int .u64 d2, .string t, .slice (some ad) 1 kcp] 37)) w.heap.size 37 #[.int .i64 11, .int .u64 a, .int .u64 b, .int .u64 d1, .int .u64 d2, .string t, .slice (some ad) 1 kcp] := blk_at rfl
  generalize hQ : WrQ wb base gv ov cv (l ++ cK g id [e] 11 l.length) (cl ++ cpos l.length (cK g id [e] 11 l.length)) w = Q
  have HQ := Lib.hid hQ
  have HG := Lib.hid hG
  have HW := Lib.hid hW
  have HX := Lib.hid he
  have HST := Lib.hid (wstar_any he)
  have HK := Lib.hid hK
  have HEE := Lib.hid hee
  clear hQ hE hG hW he hK hlE hee
  go_enter Try.func52, Try.ntmps52
  go_upto_region 37 with fail
  generalize (w.alloc (.cells #[.int .i64 11, .int .u64 a, .int .u64 b, .int .u64 d1, .int .u64 d2, .string t, .slice (some ad) 1 kcp] 37)) = w0 at hS hbx ⊢
  have HS0 := Lib.hid hS
  have HB0 := Lib.hid hbx
  clear hS hbx
  have hp1 := put_any HS0.out.wr (by first | omega | (rw [HN0.out]; omega)) 3 (0) 0 0 0 0
  have HP1 := Lib.hid hp1
  clear hp1
  go_wp2_with fail
  refine HP1.out.mono ?_
  rintro e1 w1 ⟨he1, ov1, hw1, hm1, hk1⟩
  subst he1
  have hb1 := HS0.out.wr.keepBox HB0.out (hk1.less (o2 := cv.ownBlock))
  have hS1 := HS0.out.more hw1 hm1 (Mvd.refl _ _) (hk1.less (o2 := cv.ownBlock))
  obtain ⟨n1, hn1⟩ : ∃ n, n = l.length + 1 := ⟨_, rfl⟩
  have HN1 : Hid ((l ++ [(⟨3, 0, 0, 0, 0, 0⟩ : In)]).length = n1) := by
    show _ = _
    rw [hn1, List.length_append]
    rfl
  have HS1 := Lib.hid hS1
  have HB1 := Lib.hid hb1
  have HE1 := Lib.hid hn1
  have hq1 : n1 <= l.length + 1 := by omega
  have hv1 : l.length + 1 <= n1 := by omega
  clear hn1 hw1 hm1 hk1 hb1 hS1 HP1 HS0 HB0
  have hlow1 := HS1.out.low HW.out hB
  obtain ⟨hE1, ⟨s0, s1, s2, s3, s4, s5, s6⟩⟩ := HK.out w1 hlow1
  have y6 : w1.cell? ⟨w.heap.size, 6, none⟩ = some (.slice (some ad) 1 kcp) := HB1.out.cell 6
  have hx2 := HX.out _ w1 wb base ov1 cv (l ++ [(⟨3, 0, 0, 0, 0, 0⟩ : In)]) cl (by rw [HEE.out]; exact hE1) (HG.out.on hlow1) HS1.out.wr hB (by first | omega | (rw [HN1.out]; omega)) (by first | omega | (rw [HN1.out]; omega))
  rw [HN1.out] at hx2
  unfold exCells at hx2
  have HXX := Lib.hid hx2
  clear hx2 hE1 hlow1
  go_wp2_with fail
  refine HXX.out.mono ?_
  rintro e2 w2 ⟨rfl, ov2, cv2, hw2, hm2, hm22, hk2⟩
  have hb2 := HS1.out.wr.keepBox HB1.out hk2
  have hS2 := HS1.out.more hw2 hm2 hm22 hk2
  obtain ⟨n2, hn2⟩ : ∃ n, n = n1 + lE e := ⟨_, rfl⟩
  have HN2 : Hid (((l ++ [(⟨3, 0, 0, 0, 0, 0⟩ : In)]) ++ cE g id e n1).length = n2) := by
    show _ = _
    rw [hn2, List.length_append, cE_len, HN1.out]
  have HS2 := Lib.hid hS2
  have HB2 := Lib.hid hb2
  have HE2 := Lib.hid hn2
  have hq2 : n2 <= l.length + 1 + lE e := by omega
  have hv2 : l.length + 1 + lE e <= n2 := by omega
  clear hn2 hw2 hm2 hm22 hk2 hb2 hS2 HXX HS1 HB1 s0 s1 s2 s3 s4 s5 s6 y6
  have hp3 := put_any HS2.out.wr (by first | omega | (rw [HN2.out]; omega)) 11 (0) 0 0 0 0
  have HP3 := Lib.hid hp3
  clear hp3
  go_wp2_with fail
  refine HP3.out.mono ?_
  rintro e3 w3 ⟨he3, ov3, hw3, hm3, hk3⟩
  rw [HN2.out] at he3
  subst he3
  have hb3 := HS2.out.wr.keepBox HB2.out (hk3.less (o2 := cv2.ownBlock))
  have hS3 := HS2.out.more hw3 hm3 (Mvd.refl _ _) (hk3.less (o2 := cv2.ownBlock))
  obtain ⟨n3, hn3⟩ : ∃ n, n = n2 + 1 := ⟨_, rfl⟩
  have HN3 : Hid ((((l ++ [(⟨3, 0, 0, 0, 0, 0⟩ : In)]) ++ cE g id e n1) ++ [(⟨11, 0, 0, 0, 0, 0⟩ : In)]).length = n3) := by
    show _ = _
    rw [hn3, List.length_append, HN2.out]
    rfl
  have HS3 := Lib.hid hS3
  have HB3 := Lib.hid hb3
  have HE3 := Lib.hid hn3
  have hq3 : n3 <= l.length + 1 + lE e + 1 := by omega
  have hv3 : l.length + 1 + lE e + 1 <= n3 := by omega
  clear hn3 hw3 hm3 hk3 hb3 hS3 HP3 HS2 HB2
  have hh4 := here_any HS3.out.wr (i := l.length) (by rw [HN3.out]; have h1 := HE1.out; have h2 := HE2.out; have h3 := HE3.out; omega)
  have HH4 := Lib.hid hh4
  clear hh4
  go_wp2_with fail
  refine HH4.out.mono ?_
  rintro e4 w4 hq4
  have hb4 := HS3.out.wr.keepBox HB3.out (hq4.2.2.less (o2 := cv2.ownBlock))
  obtain ⟨rfl, hS4⟩ := HS3.out.here hq4
  rw [HN3.out] at hS4
  have HS4 := Lib.hid hS4
  have HB4 := Lib.hid hb4
  have HN4 : Hid ((setN (((l ++ [(⟨3, 0, 0, 0, 0, 0⟩ : In)]) ++ cE g id e n1) ++ [(⟨11, 0, 0, 0, 0, 0⟩ : In)]) l.length (n3 : Int)).length = n3) := by
    show _ = _
    rw [setN_len]
    exact HN3.out
  clear hq4 hS4 hb4 HS3 HB3 HH4
  have hF : Q (.returned (.tuple #[])) w4 := by
    rw [<- HQ.out]
    have h1 := HS4.out.done
    have h2 := HE1.out
    have h3 := HE2.out
    have h4 := HE3.out
    have h33 : ∀ n, ¬ ((iN 3 n).op = 5) := fun n => (by decide : ¬ ((3 : Int) = 5))
    rw [cK, if_neg (by decide), if_neg (by decide), if_neg (by decide), if_neg (by decide), if_pos rfl]
    rw [cpos, if_neg (h33 _), cpos_app, cpos_none _ (iN 11 0) (show ((11 : Int)) ≠ 5 by decide), List.append_nil]
    have e1 : (l ++ [(⟨3, 0, 0, 0, 0, 0⟩ : In)] ++ cE g id e n1 ++ [(⟨11, 0, 0, 0, 0, 0⟩ : In)]) = l ++ (⟨3, 0, 0, 0, 0, 0⟩ : In) :: (cE g id e n1 ++ [(⟨11, 0, 0, 0, 0, 0⟩ : In)]) := by simp
    rw [e1, setN_at _ _ _ _ rfl, h2] at h1
    have e2 : iN 3 ((l.length + 2 + lE e : Nat) : Int) = (⟨3, (n3 : Int), 0, 0, 0, 0⟩ : In) := by unfold iN; congr 1; omega
    have e3 : iN 11 0 = (⟨11, 0, 0, 0, 0, 0⟩ : In) := rfl
    rw [e2, e3]
    exact h1
  have HF := Lib.hid hF
  clear hF HS4 HQ
  go_wp2
  go_end0
  exact HF.out
theorem words_lit (c : UInt8) : words (rangeL c.toNat 1) = #[.int .u64 ((litI c).a : Int), .int .u64 ((litI c).b : Int), .int .u64 ((litI c).c : Int), .int .u64 ((litI c).d : Int)] := by
  have hl4 := rangeL_len c.toNat 1
  unfold words litI
  generalize rangeL c.toNat 1 = l at hl4
  match l, hl4 with
  | [x0, x1, x2, x3], _ => rfl
theorem lits_pos : ∀ (t : List UInt8) (p : Nat), cpos p (t.map litI) = []
  | [], _ => rfl
  | c :: t, p => by
    rw [List.map_cons, cpos, if_neg (show ¬ (litI c).op = 5 from (by decide : ¬ ((1 : Int) = 5))), lits_pos t]
structure LitC (xb : Nat) (cs : Array Value) (W : World) : Prop where
  box : Blk W xb 37 cs
theorem wex_lit {g : List Rl} {gv : Value} {B : Nat} {A : Option Addr} {cp : Nat} {row : Nat -> List Value} {a b d1 d2 : Int} {t : ByteArray} (ht12 : t.size <= 12) : WEx g gv B A cp row 3 a b d1 d2 t [] := by
  intro cs w wb base ov cv l cl hE hG hW hB hl hcl
  obtain ⟨ht, KA, kcp, rfl, hkc, hkm, _⟩ := hE.shape
  unfold exCells
  have hlE : lE (.mk 3 a b d1 d2 t []) = t.size := by rw [lE, if_neg (by decide), if_pos rfl]
  have hcE : cE g id (.mk 3 a b d1 d2 t []) l.length = t.data.toList.map litI := by rw [cE, if_neg (by decide), if_pos rfl]
  rw [hlE] at hl
  rw [hcE, lits_pos, List.append_nil]
  have htl : t.data.toList.length = t.size := size_list t
  have hlo := hW.lo
  have hS := (WrS.start hW).alloc (.cells #[.int .i64 3, .int .u64 a, .int .u64 b, .int .u64 d1, .int .u64 d2, .string t, .slice KA 0 kcp] 37)
  have hbx : Blk (w.alloc (.cells #[.int .i64 3, .int .u64 a, .int .u64 b, .int .u64 d1, .int .u64 d2, .string t, .slice KA 0 kcp] 37)) w.heap.size 37 #[.int .i64 3, .int .u64 a, .int .u64 b, .int .u64 d1, .int .u64 d2, .string t, .slice KA 0 kcp] := blk_at rfl
  have hI : ∃ pre : List In, pre = (t.data.toList.take 0).map litI /\ WrS wb base gv ov cv w (l ++ pre) cl ov cv (w.alloc (.cells #[.int .i64 3, .int .u64 a, .int .u64 b, .int .u64 d1, .int .u64 d2, .string t, .slice KA 0 kcp] 37)) := ⟨[], rfl, by rw [List.append_nil]; exact hS⟩
  obtain ⟨pre0, hpre0, hI⟩ := hI
  generalize hQ : WrQ wb base gv ov cv (l ++ t.data.toList.map litI) cl w = Q
  have HQ := Lib.hid hQ
  have HI := Lib.hid hI
  have HP0 := Lib.hid hpre0
  have HTL := Lib.hid htl
  have HBX := Lib.hid hbx
  clear hQ hE hG hW hS hI hlE hcE hpre0 htl hbx
  go_enter Try.func52, Try.ntmps52
  go_wp2
  go_loopw [4, 23] (fun _ iv wr => ∃ (j : Nat) (pre : List In) (ov' cv' : Value), j <= t.size /\ iv = .int .i64 j /\ Hid (pre = (t.data.toList.take j).map litI) /\ Hid (WrS wb base gv ov cv w (l ++ pre) cl ov' cv' wr) /\ Hid (Blk wr w.heap.size 37 #[.int .i64 3, .int .u64 a, .int .u64 b, .int .u64 d1, .int .u64 d2, .string t, .slice KA 0 kcp])) (fun _ iv _ => t.size - (intOf iv).toNat)
  case atStart => exact ⟨0, pre0, ov, cv, by omega, rfl, HP0, HI, HBX⟩
  case round =>
    clear HI HP0 HBX
    obtain ⟨j, pre, ov', cv', hj, rfl, HP, HS, HB⟩ := hrel
    by_cases hjk : j < t.size
    · have hlpre : (l ++ pre).length = l.length + j := by
        rw [List.length_append, HP.out, List.length_map, List.length_take, HTL.out]
        omega
      obtain ⟨c, hc⟩ : ∃ c, t.data.toList[j]? = some c := ⟨_, List.getElem?_eq_getElem (by rw [HTL.out]; exact hjk)⟩
      have hct : t[j]'hjk = c := by
        have h1 : t.data.toList[j]'(by rw [HTL.out]; exact hjk) = c := by
          rw [List.getElem?_eq_getElem (by rw [HTL.out]; exact hjk)] at hc
          injection hc
        exact h1
      have hcn := c.toNat_lt
      have hrg := fun W => range_any (c.toNat : Int) (c.toNat : Int) W (by unfold I64; omega) (by unfold I64; omega) c.toNat 1 (by omega) (by omega)
      rw [words_lit] at hrg
      have HRG := Lib.hid hrg
      have hwc : IntKind.i64.wrap (c.toNat : Int) = (c.toNat : Int) := IntWalk.i64_in _ (by omega)
      have HC := Lib.hid hc
      have hj0 : (0 : Int) <= (j : Int) := by omega
      have hj1 : (j : Int) < (t.size : Int) := by omega
      have HPN : Hid ((pre ++ [litI c]) = (t.data.toList.take (j + 1)).map litI) := by
        show _ = _
        rw [take_succ_of HC.out, List.map_append, HP.out]
        rfl
      clear hrg hc
      go_upto_region 8 with fail
      refine wp_region_l (LitC w.heap.size #[.int .i64 3, .int .u64 a, .int .u64 b, .int .u64 d1, .int .u64 d2, .string t, .slice KA 0 kcp]) (fun i => i == 0 || i == 11 || i == 12) (by kernel_rfl) ?_
      have hC : LitC w.heap.size #[.int .i64 3, .int .u64 a, .int .u64 b, .int .u64 d1, .int .u64 d2, .string t, .slice KA 0 kcp] wr.drew := ⟨HB.out.drew⟩
      have hSd := HS.out.below (Below.refl _ _).drew
      have HSD := Lib.hid hSd
      generalize wr.drew = wd at hC HSD ⊢
      clear HS HB hSd HP
      apply L.rdl (i := 0) rfl (by kernel_rfl) rfl
      · intro W
        unfold readW
        go_simp
        first | rfl | exact ⟨rfl, rfl⟩
      first | simp only [Act.put, p1, p2, p3] | skip
      apply L.rdt (i := 1) rfl (by kernel_rfl) hC rfl
      · intro W hW
        skip
        unfold readW
        go_simp
        first | rfl | exact ⟨rfl, rfl⟩
      first | simp only [Act.put, p1, p2, p3] | skip
      apply L.rdt (i := 2) rfl (by kernel_rfl) hC rfl
      · intro W hW
        have n0 := hW.box.cell 5
        unfold readW
        go_simp
        first | rfl | exact ⟨rfl, rfl⟩
      first | simp only [Act.put, p1, p2, p3] | skip
      apply L.rdt (i := 3) rfl (by kernel_rfl) hC rfl
      · intro W hW
        skip
        unfold readW
        go_simp
        first | rfl | exact ⟨rfl, rfl⟩
      first | simp only [Act.put, p1, p2, p3] | skip
      apply L.rdt (i := 4) rfl (by kernel_rfl) hC rfl
      · intro W hW
        skip
        unfold readW
        go_simp
        first | rfl | exact ⟨rfl, rfl⟩
      first | simp only [Act.put, p1, p2, p3] | skip
      apply L.rdt (i := 5) rfl (by kernel_rfl) hC rfl
      · intro W hW
        skip
        unfold readW
        go_simp
        first | rfl | exact ⟨rfl, rfl⟩
      first | simp only [Act.put, p1, p2, p3] | skip
      apply L.rdt (i := 6) rfl (by kernel_rfl) hC rfl
      · intro W hW
        skip
        unfold readW
        go_simp
        first | rfl | exact ⟨rfl, rfl⟩
      first | simp only [Act.put, p1, p2, p3] | skip
      apply L.rdt (i := 7) rfl (by kernel_rfl) hC rfl
      · intro W hW
        have n0 := hW.box.cell 5
        unfold readW
        go_simp
        first | rfl | exact ⟨rfl, rfl⟩
      first | simp only [Act.put, p1, p2, p3] | skip
      apply L.rdt (i := 8) rfl (by kernel_rfl) hC rfl
      · intro W hW
        skip
        unfold readW
        go_simp
        first | rfl | exact ⟨rfl, rfl⟩
      first | simp only [Act.put, p1, p2, p3] | skip
      apply L.rdt (i := 9) rfl (by kernel_rfl) hC rfl
      · intro W hW
        skip
        unfold readW
        go_simp
        first | rfl | exact ⟨rfl, rfl⟩
      first | simp only [Act.put, p1, p2, p3] | skip
      apply L.rdt (i := 10) rfl (by kernel_rfl) hC rfl
      · intro W hW
        skip
        unfold readW
        go_simp
        first | rfl | exact ⟨rfl, rfl⟩
      first | simp only [Act.put, p1, p2, p3] | skip
      have HB := Lib.hid hC.box
      have hlp6 : (l ++ pre).length <= 6000 := by rw [hlpre]; omega
      clear hC
      apply L.one (i := 11) rfl (by kernel_rfl) rfl
      unfold stepT
      go_simp
      go_at_call 27
      refine (HRG.out _).mono ?_
      rintro e1 w1 ⟨rfl, hb1⟩
      have hS1 := HSD.out.below hb1
      have hB1 := HB.out.below hb1 HB.out.lt
      have hp := put_any hS1.wr hlp6 1 0 (litI c).a (litI c).b (litI c).c (litI c).d
      have HP := Lib.hid hp
      have HS1 := Lib.hid hS1
      have HB1 := Lib.hid hB1
      clear hp hS1 hB1 hb1 HSD HB HRG
      refine ⟨_, rfl, ?_⟩
      first | simp only [Act.put, p1, p2, p3] | skip
      apply L.one (i := 12) rfl (by kernel_rfl) rfl
      unfold stepT
      go_simp
      go_at_call 51
      refine (HP.out).mono ?_
      rintro e2 w2 ⟨rfl, ov2, hw2, hm, hk⟩
      have hB2 := HS1.out.wr.keepBox HB1.out (hk.less (o2 := cv'.ownBlock))
      have hS2 := HS1.out.more hw2 hm (Mvd.refl _ _) (hk.less (o2 := cv'.ownBlock))
      have hS3 : WrS wb base gv ov cv w (l ++ (pre ++ [litI c])) cl ov2 cv' w2 := by
        rw [<- List.append_assoc]
        exact hS2
      have HS3 := Lib.hid hS3
      have HB3 := Lib.hid hB2
      clear hw2 hm hk hB2 hS2 hS3 HP HS1 HB1
      refine ⟨_, rfl, ?_⟩
      first | simp only [Act.put, p1, p2, p3] | skip
      refine L.done (by kernel_rfl) ?_
      go_wp2
      go_roundw
      case rel => exact ⟨j + 1, _, ov2, cv', by omega, by go_num, HPN, HS3, HB3⟩
      case measure => simp [intOf]; omega
    · obtain rfl : j = t.size := by omega
      have hpre := HP.out
      rw [<- HTL.out, List.take_length] at hpre
      subst hpre
      have hF : Q (.returned (.tuple #[])) wr := by rw [<- HQ.out]; exact HS.out.done
      have HF := Lib.hid hF
      clear hF HS HP HQ HB HTL
      go_wp2
      go_end0
      exact HF.out
structure RefC (wb xb : Nat) (gv cv : Value) (cs : Array Value) (W : World) : Prop where
  c0 : W.cell? ⟨wb, 0, none⟩ = some gv
  c2 : W.cell? ⟨wb, 2, none⟩ = some cv
  box : Blk W xb 37 cs
theorem wex_ref {g : List Rl} {B : Nat} {A : Option Addr} {cp : Nat} {row : Nat -> List Value} {a b d1 d2 : Int} {t : ByteArray} (hk : 0 <= fnd g t.data.toList) : WEx g (.slice A g.length cp) B A cp row 4 a b d1 d2 t [] := by
  intro cs w wb base ov cv l cl hE hG hW hB hl hcl
  obtain ⟨i0, hi0, hz0, hz1, hz2⟩ := info_parts intw_info
  obtain ⟨ht, KA, kcp, rfl, hkc, hkm, _⟩ := hE.shape
  unfold exCells
  have hlE : lE (.mk 4 a b d1 d2 t []) = 1 := by rw [lE, if_neg (by decide), if_neg (by decide), if_pos rfl]
  have hcE : cE g id (.mk 4 a b d1 d2 t []) l.length = [iN 5 (fnd g t.data.toList)] := by
    rw [cE, if_neg (by decide), if_neg (by decide), if_pos rfl]
    show [iN 5 (((fnd g t.data.toList).toNat : Nat) : Int)] = _
    rw [Int.toNat_of_nonneg hk]
  rw [hlE] at hl
  rw [hcE, cpos, if_pos (by rfl), cpos]
  have hlo := hW.lo
  have hs0 := run_set0
  have hS := (WrS.start hW).alloc (.cells #[.int .i64 4, .int .u64 a, .int .u64 b, .int .u64 d1, .int .u64 d2, .string t, .slice KA 0 kcp] 37)
  have hbx : Blk (w.alloc (.cells #[.int .i64 4, .int .u64 a, .int .u64 b, .int .u64 d1, .int .u64 d2, .string t, .slice KA 0 kcp] 37)) w.heap.size 37 #[.int .i64 4, .int .u64 a, .int .u64 b, .int .u64 d1, .int .u64 d2, .string t, .slice KA 0 kcp] := blk_at rfl
  have hlow : Below B w (w.alloc (.cells #[.int .i64 4, .int .u64 a, .int .u64 b, .int .u64 d1, .int .u64 d2, .string t, .slice KA 0 kcp] 37)) := (Below.refl _ _).alloc (by omega) _
  have hG1 := hG.on hlow
  generalize hQ : WrQ wb base (.slice A g.length cp) ov cv (l ++ [iN 5 (fnd g t.data.toList)]) (cl ++ [l.length]) w = Q
  generalize hfi : fnd g t.data.toList = fi at hQ
  have HFI := Lib.hid hfi
  have HQ := Lib.hid hQ
  clear hQ hE hG hW hlE hcE hlow hfi hk
  go_enter Try.func52, Try.ntmps52
  go_upto_region 11 with fail
  have hsz1 : w.heap.size < (w.alloc (.cells #[.int .i64 4, .int .u64 a, .int .u64 b, .int .u64 d1, .int .u64 d2, .string t, .slice KA 0 kcp] 37)).heap.size := by simp
  generalize (w.alloc (.cells #[.int .i64 4, .int .u64 a, .int .u64 b, .int .u64 d1, .int .u64 d2, .string t, .slice KA 0 kcp] 37)) = w0 at hS hbx hG1 hsz1 ⊢
  obtain ⟨V2, c2, rfl⟩ := hS.wr.callForm
  refine wp_region_l (RefC wb w.heap.size (.slice A g.length cp) (.slice V2 cl.length c2) #[.int .i64 4, .int .u64 a, .int .u64 b, .int .u64 d1, .int .u64 d2, .string t, .slice KA 0 kcp]) (fun i => i == 0 || i == 16 || i == 17 || i == 18 || i == 19) (by kernel_rfl) ?_
  have hC : RefC wb w.heap.size (.slice A g.length cp) (.slice V2 cl.length c2) #[.int .i64 4, .int .u64 a, .int .u64 b, .int .u64 d1, .int .u64 d2, .string t, .slice KA 0 kcp] w0.drew := ⟨hS.wr.box.cell 0, hS.wr.box.cell 2, hbx.drew⟩
  have hSd := hS.below (Below.refl _ _).drew
  have hGd := hG1.on (Below.refl _ _).drew
  have hszd : w.heap.size < w0.drew.heap.size := hsz1
  generalize w0.drew = wd at hC hSd hGd hszd ⊢
  clear hS hbx hG1 hsz1
  apply L.rdl (i := 0) rfl (by kernel_rfl) rfl
  · intro W
    unfold readW
    go_simp
    first | rfl | exact ⟨rfl, rfl⟩
  first | simp only [Act.put, p1, p2, p3] | skip
  apply L.rdt (i := 1) rfl (by kernel_rfl) hC rfl
  · intro W hW
    skip
    unfold readW
    go_simp
    first | rfl | exact ⟨rfl, rfl⟩
  first | simp only [Act.put, p1, p2, p3] | skip
  apply L.rdt (i := 2) rfl (by kernel_rfl) hC rfl
  · intro W hW
    skip
    unfold readW
    go_simp
    first | rfl | exact ⟨rfl, rfl⟩
  first | simp only [Act.put, p1, p2, p3] | skip
  apply L.rdt (i := 3) rfl (by kernel_rfl) hC rfl
  · intro W hW
    skip
    unfold readW
    go_simp
    first | rfl | exact ⟨rfl, rfl⟩
  first | simp only [Act.put, p1, p2, p3] | skip
  apply L.rdt (i := 4) rfl (by kernel_rfl) hC rfl
  · intro W hW
    have n0 := hW.c2
    unfold readW
    go_simp
    first | rfl | exact ⟨rfl, rfl⟩
  first | simp only [Act.put, p1, p2, p3] | skip
  apply L.rdt (i := 5) rfl (by kernel_rfl) hC rfl
  · intro W hW
    skip
    unfold readW
    go_simp
    first | rfl | exact ⟨rfl, rfl⟩
  first | simp only [Act.put, p1, p2, p3] | skip
  apply L.rdt (i := 6) rfl (by kernel_rfl) hC rfl
  · intro W hW
    skip
    unfold readW
    go_simp
    first | rfl | exact ⟨rfl, rfl⟩
  first | simp only [Act.put, p1, p2, p3] | skip
  apply L.rdt (i := 7) rfl (by kernel_rfl) hC rfl
  · intro W hW
    skip
    unfold readW
    go_simp
    first | rfl | exact ⟨rfl, rfl⟩
  first | simp only [Act.put, p1, p2, p3] | skip
  apply L.rdt (i := 8) rfl (by kernel_rfl) hC rfl
  · intro W hW
    skip
    unfold readW
    go_simp
    first | rfl | exact ⟨rfl, rfl⟩
  first | simp only [Act.put, p1, p2, p3] | skip
  apply L.rdt (i := 9) rfl (by kernel_rfl) hC rfl
  · intro W hW
    have n0 := hW.c0
    unfold readW
    go_simp
    first | rfl | exact ⟨rfl, rfl⟩
  first | simp only [Act.put, p1, p2, p3] | skip
  apply L.rdt (i := 10) rfl (by kernel_rfl) hC rfl
  · intro W hW
    skip
    unfold readW
    go_simp
    first | rfl | exact ⟨rfl, rfl⟩
  first | simp only [Act.put, p1, p2, p3] | skip
  apply L.rdt (i := 11) rfl (by kernel_rfl) hC rfl
  · intro W hW
    have n0 := hW.box.cell 5
    unfold readW
    go_simp
    first | rfl | exact ⟨rfl, rfl⟩
  first | simp only [Act.put, p1, p2, p3] | skip
  apply L.rdt (i := 13) rfl (by kernel_rfl) hC rfl
  · intro W hW
    skip
    unfold readW
    go_simp
    first | rfl | exact ⟨rfl, rfl⟩
  first | simp only [Act.put, p1, p2, p3] | skip
  have hfd := find_any (hGd.more (by omega)) t
  rw [HFI.out] at hfd
  have HFD := Lib.hid hfd
  have HSD := Lib.hid hSd
  have HC := Lib.hid hC
  clear hfd hSd hC hGd
  apply L.one (i := 12) rfl (by kernel_rfl) rfl
  unfold stepT
  go_simp
  go_at_call 64
  refine (HFD.out).mono ?_
  rintro e1 w1 ⟨rfl, hb1⟩
  have hS1 := HSD.out.below hb1
  have hB1 := HC.out.box.below hb1 HC.out.box.lt
  have hC1 : RefC wb w.heap.size (.slice A g.length cp) (.slice V2 cl.length c2) #[.int .i64 4, .int .u64 a, .int .u64 b, .int .u64 d1, .int .u64 d2, .string t, .slice KA 0 kcp] w1 := ⟨hS1.wr.box.cell 0, hS1.wr.box.cell 2, hB1⟩
  have hp := put_any hS1.wr (by omega) 5 fi 0 0 0 0
  have HP := Lib.hid hp
  have HS1 := Lib.hid hS1
  have HC1 := Lib.hid hC1
  clear hp hS1 hB1 hb1 hC1 HSD HC HFD hszd
  refine ⟨_, rfl, HC1.out, ?_⟩
  first | simp only [Act.put, p1, p2, p3] | skip
  apply L.one (i := 14) rfl (by kernel_rfl) rfl
  unfold stepT
  go_simp
  go_at_call 51
  refine (HP.out).mono ?_
  rintro e2 w2 ⟨rfl, ov2, hw2, hm, hk⟩
  have hB2 := HS1.out.wr.keepBox HC1.out.box (hk.less (o2 := (Value.slice V2 cl.length c2).ownBlock))
  have hS2 := HS1.out.more hw2 hm (Mvd.refl _ _) (hk.less (o2 := (Value.slice V2 cl.length c2).ownBlock))
  have hC2 : RefC wb w.heap.size (.slice A g.length cp) (.slice V2 cl.length c2) #[.int .i64 4, .int .u64 a, .int .u64 b, .int .u64 d1, .int .u64 d2, .string t, .slice KA 0 kcp] w2 := ⟨hS2.wr.box.cell 0, hS2.wr.box.cell 2, hB2⟩
  have HS2 := Lib.hid hS2
  have HC2 := Lib.hid hC2
  clear hw2 hm hk hB2 hS2 hC2 HP HS1 HC1
  refine ⟨_, rfl, HC2.out, ?_⟩
  first | simp only [Act.put, p1, p2, p3] | skip
  apply L.one (i := 15) rfl (by kernel_rfl) rfl
  unfold stepT
  go_simp
  have hC3 : RefC wb w.heap.size (.slice A g.length cp) (.slice V2 cl.length c2) #[.int .i64 4, .int .u64 a, .int .u64 b, .int .u64 d1, .int .u64 d2, .string t, .slice KA 0 kcp] (w2.alloc (.cells #[.int .i64 (l.length : Int)] 3)) := by
    have h1 := HS2.out.alloc (.cells #[.int .i64 (l.length : Int)] 3)
    exact ⟨h1.wr.box.cell 0, h1.wr.box.cell 2, HC2.out.box.alloc _⟩
  have hS3 := HS2.out.alloc (.cells #[.int .i64 (l.length : Int)] 3)
  have hkb : Blk (w2.alloc (.cells #[.int .i64 (l.length : Int)] 3)) w2.heap.size 3 #[.int .i64 (l.length : Int)] := blk_at rfl
  generalize (w2.alloc (.cells #[.int .i64 (l.length : Int)] 3)) = w3 at hC3 hS3 hkb ⊢
  generalize w2.heap.size = nb at hkb ⊢
  have hl3 := hS3.wr.lo
  refine ⟨hC3, ?_⟩
  apply L.one (i := 16) rfl (by kernel_rfl) rfl
  refine stepT_append_atC (.tmp 46) (.tmp 57) 100 rfl base 3 i0 _ 1 8 Try.underlying100 hi0 hz0 hz1 hz2 rfl (by decide) (.slice V2 cl.length c2) cl.length (nV cl) (by simp [Act.eval]) hS3.wr.calls ⟨nb, 0, none⟩ 1 1 [.int .i64 (l.length : Int)] (by simp [Act.eval]) rfl (fun i u hu => by rw [cellC]; exact (hkb.cell i).trans (by rw [List.getElem?_toArray]; exact hu)) (by simp [Value.oneCell']) (by unfold maxLen; omega) (by omega) (by omega) ?_
  intro v' w4 hown4 hgr hat
  obtain ⟨V4, c4, rfl⟩ := own_form hown4
  have hwo : some wb ≠ (Value.slice V2 cl.length c2).ownBlock := fun e => by have := (hS3.wr.calls.lt wb e.symm).1; omega
  have hwb4 : Blk w4 wb 110 #[.slice A g.length cp, ov2, .slice V2 cl.length c2] := hS3.wr.box.grown hgr hwo
  have hout4 := hS3.wr.out.kept hgr (own_apart hS3.wr.out hS3.wr.calls (by decide))
  have hwk4 : Wk wb ov2.ownBlock (Value.slice V2 cl.length c2).ownBlock w3 w4 := (Wk.refl _ _ _ _).grown hgr (.inr rfl)
  have hmv : Mvd w3 (Value.slice V2 cl.length c2).ownBlock (Value.slice V4 (cl.length + 1) c4).ownBlock := by
    rcases hat with h | h
    · exact .inl h
    · exact .inr ⟨_, h, Nat.le_refl _⟩
  have hcl5 : w4.ownsRow base 3 1 (.slice V4 (cl.length + 1) c4) (cl ++ [l.length]).length (nV (cl ++ [l.length])) := by
    rw [nV_snoc, List.length_append]
    exact hown4
  have hsz4 := hgr.size
  refine ⟨fun h => absurd h (by decide), ?_⟩
  first | simp only [Act.put, p1, p2, p3] | skip
  apply L.rdl (i := 17) rfl (by kernel_rfl) rfl
  · intro W
    unfold readW
    go_simp
    first | rfl | exact ⟨rfl, rfl⟩
  first | simp only [Act.put, p1, p2, p3] | skip
  apply L.rdl (i := 18) rfl (by kernel_rfl) rfl
  · intro W
    unfold readW
    go_simp
    first | rfl | exact ⟨rfl, rfl⟩
  first | simp only [Act.put, p1, p2, p3] | skip
  have n0 := hwb4.cell 2
  have f2 := hwb4.frozen 2
  have hwb5 : Blk (w4.setCell ⟨wb, 2, none⟩ (.slice V4 (cl.length + 1) c4)) wb 110 #[.slice A g.length cp, ov2, .slice V4 (cl.length + 1) c4] := hwb4.set_ 2 _
  have hgw : w4.grownBy (w4.setCell ⟨wb, 2, none⟩ (.slice V4 (cl.length + 1) c4)) (some wb) := ⟨rfl, rfl, rfl, by simp [World.setCell], fun k _ hne => Below.heap_setCell w4 ⟨wb, 2, none⟩ _ k (by rintro rfl; exact hne rfl)⟩
  have hW5 : WrI (w4.setCell ⟨wb, 2, none⟩ (.slice V4 (cl.length + 1) c4)) wb base (.slice A g.length cp) ov2 (.slice V4 (cl.length + 1) c4) (l ++ [⟨5, fi, 0, 0, 0, 0⟩]) (cl ++ [l.length]) :=
    ⟨⟨hlo.1, by simp [World.setCell]; omega⟩, hwb5, hout4.kept hgw (.inr fun e => by have := (hout4.lt wb e).1; omega), hcl5.kept hgw (.inr fun e => by have := (hcl5.lt wb e).1; omega)⟩
  have hS5 := hS3.more hW5 (Mvd.refl _ _) hmv (hwk4.set_ (.inl rfl) 2 (.slice V4 (cl.length + 1) c4))
  have hF : Q (.returned (.tuple #[])) (w4.setCell ⟨wb, 2, none⟩ (.slice V4 (cl.length + 1) c4)) := by rw [<- HQ.out]; exact hS5.done
  have HF := Lib.hid hF
  clear hF hS5 hW5 hgw hwb5 hcl5 hmv hwk4 hout4 hown4 hgr hat hS3 hC3 hkb HS2 HC2 HQ
  apply L.one (i := 19) rfl (by kernel_rfl) rfl
  unfold stepT
  go_simp
  refine L.done (by kernel_rfl) ?_
  go_wp2
  go_end0
  exact HF.out
theorem u64_natC {a : Int} (h : U64 a) : ∃ n : Nat, a = n /\ n < 18446744073709551616 := by
  obtain ⟨h1, h2⟩ := h
  exact ⟨a.toNat, by omega, by omega⟩
theorem wexpr_any {g : List Rl} {B : Nat} {A : Option Addr} {cp : Nat} {row : Nat -> List Value} (e : Ex) : Rt g e -> WfE e -> WExpr g (.slice A g.length cp) B A cp row e := by
  refine Ex.ind (P := fun e => Rt g e -> WfE e -> WExpr g (.slice A g.length cp) B A cp row e) ?_ e
  intro k a b c d t ks ih hr hw
  cases hr with
  | mk _ _ _ _ _ _ _ hfit hname hkids =>
  cases hw with
  | mk _ _ _ _ _ _ _ hk64 wa wb wc wd wks =>
  have hks : ∀ e ∈ ks, WExpr g (.slice A g.length cp) B A cp row e := fun e he => ih e he (hkids e he) (wks e he)
  have hcap : t.data.toList.length = t.size := size_list t
  rcases fit_cases hfit with ⟨rfl, h0⟩ | ⟨rfl, h0⟩ | ⟨rfl, h0, _, h60⟩ | ⟨rfl, h0, _⟩ | ⟨rfl, h2, h8⟩ | ⟨rfl, h2, h8⟩ | ⟨h7, h11, h1⟩
  · obtain rfl := List.length_eq_zero_iff.1 h0
    exact wex_empty
  · obtain rfl := List.length_eq_zero_iff.1 h0
    obtain ⟨a, rfl, ha⟩ := u64_natC wa
    obtain ⟨b, rfl, hb⟩ := u64_natC wb
    obtain ⟨c, rfl, hc⟩ := u64_natC wc
    obtain ⟨d, rfl, hd⟩ := u64_natC wd
    exact wex_set
  · obtain rfl := List.length_eq_zero_iff.1 h0
    exact wex_lit (by omega)
  · obtain rfl := List.length_eq_zero_iff.1 h0
    exact wex_ref (hname rfl)
  · exact wex_seq hks
  · exact wex_alt hks (by rintro rfl; simp at h2) (by omega)
  · match ks, h1 with
    | [e0], _ =>
      have he := hks e0 (by simp)
      rcases (by omega : k = 7 \/ k = 8 \/ k = 9 \/ k = 10 \/ k = 11) with rfl | rfl | rfl | rfl | rfl
      · exact wex_7 he
      · exact wex_8 he
      · exact wex_9 he
      · exact wex_10 he
      · exact wex_11 he
end Go.Proofs.Ytkmcnekjimobhaa
namespace Go.Proofs.Ytkmcnekjimobhaa
set_option maxRecDepth 100000
mutual
def hE : Ex -> Nat
  | .mk _ _ _ _ _ _ ks => 1 + hS ks
def hS : List Ex -> Nat
  | [] => 0
  | e :: es => max (hE e) (hS es)
end
theorem hS_mem : ∀ {ks : List Ex} {e : Ex}, e ∈ ks -> hE e <= hS ks
  | [], e, h => by cases h
  | x :: xs, e, h => by
    rw [hS]
    rcases List.mem_cons.1 h with rfl | h
    · exact Nat.le_max_left _ _
    · exact Nat.le_trans (hS_mem h) (Nat.le_max_right _ _)
theorem hS_le {N : Nat} : ∀ {ks : List Ex}, (∀ e ∈ ks, hE e <= N) -> hS ks <= N
  | [], _ => Nat.zero_le _
  | e :: es, h => by
    rw [hS]
    exact Nat.max_le.2 ⟨h e (by simp), hS_le fun x hx => h x (by simp [hx])⟩
theorem looks_deep {m : Nat} : ∀ (ks : List Ex) (n : Nat), (looks ks n m).1 = 0 -> ∀ e ∈ ks, ∃ n', (lookN e n' m).1 = 0
  | [], _, _ => fun e he => by cases he
  | e :: es, n, h => fun e' he' => by
    unfold looks at h
    split at h
    · rename_i h0
      rcases List.mem_cons.1 he' with rfl | he'
      · exact ⟨_, h0⟩
      · exact looks_deep es _ h e' he'
    · rename_i h0
      exact absurd h h0
theorem look_deep (e : Ex) : ∀ n m, (lookN e n m).1 = 0 -> m + hE e <= 13 := by
  refine Ex.ind (P := fun e => ∀ n m, (lookN e n m).1 = 0 -> m + hE e <= 13) ?_ e
  intro k a b c d t ks ih n m h
  unfold lookN at h
  split at h
  · simp at h
  split at h
  · simp at h
  rename_i h12
  split at h
  · simp at h
  · have hk := looks_deep ks _ h
    have : hS ks <= 12 - m := hS_le fun e he => by
      obtain ⟨n', hn⟩ := hk e he
      have := ih e he n' (m + 1) hn
      omega
    rw [hE]
    omega
theorem check_deep {e : Ex} (h : checkE e = 0) : hE e <= 12 := by
  have := look_deep e 0 1 h
  omega
end Go.Proofs.Ytkmcnekjimobhaa
