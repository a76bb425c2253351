/- (*maker).list: alternatives. -/
import Derived.Test.YtkmcnekjimobhaaJTopRoads30
import Derived.Deep.DeepCutAuto
namespace Go.Proofs.Ytkmcnekjimobhaa
set_option maxHeartbeats 8000000
set_option maxRecDepth 100000
open Go.RowKit Go.Maps
theorem slist6_any {g : List Rl} {fs : List Fa} {lo mb gcp fcp n cp : Nat} {GA FA A : Option Addr} {row : Nat -> List Value} {m : Bool} {a b c d : Int} {t : ByteArray} {ks : List Ex} {w : World}
    (hE : ExF (fun b => lo <= b /\ b < w.heap.size) w.heap.size w (.mk 6 a b c d t ks) (exCells 6 a b c d t A n cp)) (hlo : mb < lo) (hm : Blk w mb 138 (mkS GA FA g.length gcp fs.length fcp m)) (hR : ∀ x ∈ ks, Rt g x) (hlen : fs.length = g.length) (hG : GrIs w mb g GA gcp row) (hF : Reads w mb 3 FA fs.length (facs fs)) (h2 : 2 <= ks.length) (h8 : ks.length <= 8) :
    Calls Try.prog 97 #[.pointer (some ⟨mb, 0, none⟩), .agg (exCells 6 a b c d t A n cp).toArray] w (SimQ lo (topS 6 a b c d t (listS g fs 6 ks [])).1 mb (mkS GA FA g.length gcp fs.length fcp (m || (topS 6 a b c d t (listS g fs 6 ks [])).2)) w) := by
  obtain ⟨rfl, htl, hncp, hcpm, hnil⟩ := hE.is.len
  obtain ⟨i0, hi0, hz0, hz1, hz2⟩ := info_parts expr_info
  obtain ⟨R, hRr⟩ : ∃ R, (listS g fs 6 ks []).1 = R := ⟨_, rfl⟩
  obtain ⟨M, hM⟩ : ∃ M, (m || (listS g fs 6 ks []).2) = M := ⟨_, rfl⟩
  have hT0 : R = [] -> ∀ r W', SimQ lo (ofN 1 []) mb (mkS GA FA g.length gcp fs.length fcp M) w r W' -> SimQ lo (topS 6 a b c d t (listS g fs 6 ks [])).1 mb (mkS GA FA g.length gcp fs.length fcp (m || (topS 6 a b c d t (listS g fs 6 ks [])).2)) w r W' := fun e r W' h => by
    generalize listS g fs 6 ks [] = z at hRr hM ⊢
    obtain ⟨l, f⟩ := z
    simp only at hRr hM
    subst hRr e hM
    exact h
  have hT1 : ∀ y, R = [y] -> ∀ r W', SimQ lo y mb (mkS GA FA g.length gcp fs.length fcp true) w r W' -> SimQ lo (topS 6 a b c d t (listS g fs 6 ks [])).1 mb (mkS GA FA g.length gcp fs.length fcp (m || (topS 6 a b c d t (listS g fs 6 ks [])).2)) w r W' := fun y e r W' h => by
    generalize listS g fs 6 ks [] = z at hRr hM ⊢
    obtain ⟨l, f⟩ := z
    simp only at hRr hM
    subst hRr e
    rw [show (topS 6 a b c d t ([y], f)).2 = true from rfl, Bool.or_true]
    exact h
  have hT2 : 2 <= R.length -> ∀ r W', SimQ lo (.mk 6 a b c d t R) mb (mkS GA FA g.length gcp fs.length fcp M) w r W' -> SimQ lo (topS 6 a b c d t (listS g fs 6 ks [])).1 mb (mkS GA FA g.length gcp fs.length fcp (m || (topS 6 a b c d t (listS g fs 6 ks [])).2)) w r W' := fun e r W' h => by
    generalize listS g fs 6 ks [] = z at hRr hM ⊢
    obtain ⟨l, f⟩ := z
    simp only at hRr hM
    subst hRr hM
    match l, e, h with
    | y :: z :: l, _, h => exact h
  generalize SimQ lo (topS 6 a b c d t (listS g fs 6 ks [])).1 mb (mkS GA FA g.length gcp fs.length fcp (m || (topS 6 a b c d t (listS g fs 6 ks [])).2)) w = Q at hT0 hT1 hT2 ⊢
  have HT0 := Lib.hid hT0
  have HT1 := Lib.hid hT1
  have HT2 := Lib.hid hT2
  have HRM : Hid ((listS g fs 6 ks []).1 = R /\ (m || (listS g fs 6 ks []).2) = M) := ⟨hRr, hM⟩
  have hfl : ∀ (W : World) (k2 a2 b2 c2 d2 : Int) (t2 : ByteArray) (ks2 : List Ex) (A2 : Option Addr) (cp2 : Nat), w.grownBy W (some mb) -> ExF (fun b => lo <= b /\ b < w.heap.size) w.heap.size W (.mk k2 a2 b2 c2 d2 t2 ks2) (exCells k2 a2 b2 c2 d2 t2 A2 ks2.length cp2) -> Rt g (.mk k2 a2 b2 c2 d2 t2 ks2) ->
      Calls Try.prog 122 #[.agg #[.slice GA g.length gcp], .slice FA fs.length fcp, .agg #[.int .i64 k2, .int .u64 a2, .int .u64 b2, .int .u64 c2, .int .u64 d2, .string t2, .slice A2 ks2.length cp2]] W fun r w' => r = .returned (.bool (ofE g fs (.mk k2 a2 b2 c2 d2 t2 ks2)).f) /\ Below W.heap.size W w' := fun W k2 a2 b2 c2 d2 t2 ks2 A2 cp2 hgW hxW hrW => by
    have hmw := hm.lt
    have hgz := hgW.size
    have hkp : ∀ p : Addr, p.block < mb -> W.cell? p = w.cell? p := fun p hp => World.cell?_of_block (hgW.block p.block (by omega) (by intro e; injection e with e; omega))
    exact fails_any (fcp := fcp) hlen (hG.keep (by omega) hkp) ((hF.keep hkp).more (by omega)) (hxW.is.keep hgz fun _ _ => rfl) hrW
  have HFL := Lib.hid hfl
  have HE := Lib.hid hE
  have HR := Lib.hid hR
  have hml := hm.lt
  have HM := Lib.hid hm
  have HT : Hid (∀ b, (fun b => lo <= b /\ b < w.heap.size) b -> b < w.heap.size) := fun b hb => hb.2
  clear hRr hM hT0 hT1 hT2 hE hR hm hfl hG hF hlen
  unfold exCells
  unfold maxLen at hcpm
  go_enter Try.func97, Try.ntmps97
  go_wp2
  go_loopw [5, 11] (fun lv i wr => ∃ (j : Nat) (Ls : List Ex) (V : Option Addr) (cv : Nat) (rows : Nat -> List Value) (m' : Bool), j <= ks.length /\ i = .int .i64 j /\ lv = .slice V Ls.length cv /\ Ls.length + (ks.length - j) <= 8 /\ SlI (fun b => lo <= b /\ b < w.heap.size) mb (mkS GA FA g.length gcp fs.length fcp) #[.int .i64 6, .int .u64 a, .int .u64 b, .int .u64 c, .int .u64 d, .string t, .slice A ks.length cp] w Ls V cv rows m' wr /\
    Hid ((listS g fs 6 (ks.drop j) Ls).1 = R /\ (m' || (listS g fs 6 (ks.drop j) Ls).2) = M)) (fun _ i _ => ks.length - (intOf i).toNat)
  case atStart =>
    refine ⟨0, [], none, 0, fun _ => [], m, by omega, rfl, rfl, by simp; omega, ⟨grown_of_below bl _, (HM.out.alloc _).alloc _, (blk_at rfl).alloc _, blk_at (by simp), KidsT.nil _ _ _ _⟩, HRM⟩
  case round =>
    clear HRM HM
    obtain ⟨j, Ls, V, cv, rows, m', hj, rfl, rfl, hL8, hI, HS⟩ := hrel
    by_cases hjn : j < ks.length
    · obtain ⟨ad, k2, a2, b2, c2, d2, t2, ks2, A2, cp2, rfl, hab, hSb, hej, hx, hS⟩ := HE.out.kid hjn
      have hrt := HR.out _ (List.mem_of_getElem? hej)
      have hk := fun (q : Addr) (hq : q.block = (ad.add (j * 7)).block) => World.cell?_of_block (a := q) (hI.grown.block q.block (by rw [hq, add_block]; omega) (by rw [hq, add_block]; intro e; injection e with e; omega))
      have y0 := (hk _ rfl).trans hS.c0
      have y1 := (hk ⟨_, _, none⟩ rfl).trans hS.c1
      have y2 := (hk ⟨_, _, none⟩ rfl).trans hS.c2
      have y3 := (hk ⟨_, _, none⟩ rfl).trans hS.c3
      have y4 := (hk ⟨_, _, none⟩ rfl).trans hS.c4
      have y5 := (hk ⟨_, _, none⟩ rfl).trans hS.c5
      have y6 := (hk ⟨_, _, none⟩ rfl).trans hS.c6
      have hxr := hx.keep (W' := wr) fun p hp => World.cell?_of_block (hI.grown.block p.block hp.2 (by intro e; injection e with e; have := hp.1; omega))
      have hgz := hI.grown.size
      have had1 : ad.block < wr.heap.size := by omega
      have hjl : (j : Int) < (ks.length : Int) := by omega
      obtain ⟨hk28, hk22⟩ := rt_kids hrt
      simp only [Ex.ks, Ex.kd] at hk28 hk22
      have hst : ks.drop j = .mk k2 a2 b2 c2 d2 t2 ks2 :: ks.drop (j + 1) := drop_of hej
      rw [hst] at HS
      have hdl : (ks.drop (j + 1)).length = ks.length - (j + 1) := List.length_drop
      have HX := Lib.hid hxr
      have HRT := Lib.hid hrt
      clear hk hS hx hxr hrt hej hst
      go_upto_region 5 with fail
      have hI1 := hI.below HT.out ((Below.refl _ wr).alloc (Nat.le_refl _) (.cells #[.int .i64 k2, .int .u64 a2, .int .u64 b2, .int .u64 c2, .int .u64 d2, .string t2, .slice A2 ks2.length cp2] 37))
      have hkb : Blk (wr.alloc (.cells #[.int .i64 k2, .int .u64 a2, .int .u64 b2, .int .u64 c2, .int .u64 d2, .string t2, .slice A2 ks2.length cp2] 37)) wr.heap.size 37 #[.int .i64 k2, .int .u64 a2, .int .u64 b2, .int .u64 c2, .int .u64 d2, .string t2, .slice A2 ks2.length cp2] := blk_at rfl
      have hx1 := HX.out.keep (W' := (wr.alloc (.cells #[.int .i64 k2, .int .u64 a2, .int .u64 b2, .int .u64 c2, .int .u64 d2, .string t2, .slice A2 ks2.length cp2] 37))) fun p hp => World.cell?_alloc_lt wr _ p (by have := hp.2; omega)
      have hkl : wr.heap.size < (wr.alloc (.cells #[.int .i64 k2, .int .u64 a2, .int .u64 b2, .int .u64 c2, .int .u64 d2, .string t2, .slice A2 ks2.length cp2] 37)).heap.size := by simp
      generalize (wr.alloc (.cells #[.int .i64 k2, .int .u64 a2, .int .u64 b2, .int .u64 c2, .int .u64 d2, .string t2, .slice A2 ks2.length cp2] 37)) = w1 at hI1 hkb hx1 hkl ⊢
      have hkw : w.heap.size + 2 <= wr.heap.size := hI.res.lt
      have HOK : Hid (∀ q, (Value.slice V Ls.length cv).ownBlock = some q -> q ≠ wr.heap.size) := fun q hq => by have := (hI.kids.own.lt q hq).2; omega
      generalize wr.heap.size = kb at hkb hkl hkw HOK ⊢
      clear HX hI y0 y1 y2 y3 y4 y5 y6 had1 hgz
      have c0 : w1.cell? ⟨kb, 0, none⟩ = some (.int .i64 k2) := hkb.cell 0
      have c6 : w1.cell? ⟨kb, 6, none⟩ = some (.slice A2 ks2.length cp2) := hkb.cell 6
      have e0 : w1.cell? ⟨w.heap.size, 0, none⟩ = some (.int .i64 6) := hI1.box.cell 0
      have e6 : w1.cell? ⟨w.heap.size, 6, none⟩ = some (.slice (some ad) ks.length cp) := hI1.box.cell 6
      have m2 : w1.cell? ⟨mb, 2, none⟩ = some (.bool m') := hI1.mak.cell 2
      have f2 := hI1.mak.frozen 2
      have hwz := hI1.box.lt
      go_cut [23] (fun s23 wx => s23 = .bool false /\ w1 = wx)
      case first =>
        by_cases h1 : k2 = 1
        · have b1 : (k2 == 1) = true := by rw [h1]; rfl
          clear h1
          go_wp2_with fail
          go_meet
          exact ⟨rfl, rfl⟩
        · have b1 : (k2 == 1) = false := by rw [beq_eq_false_iff_ne]; exact h1
          clear h1
          go_wp2_with fail
          go_meet
          exact ⟨rfl, rfl⟩
      case rest =>
      obtain ⟨rfl, rfl⟩ := hcut
      obtain ⟨fl, hfl⟩ : ∃ fl, flatB 6 (.mk k2 a2 b2 c2 d2 t2 ks2) Ls (ks.drop (j + 1)) = fl := ⟨_, rfl⟩
      have hflB : fl = (decide (k2 = 6) && decide (Ls.length + ks2.length + (ks.length - (j + 1)) <= 8)) := by rw [<- hfl, <- hdl]; rfl
      go_upto_region 7 with fail
      go_cut [47] (fun s47 wx => s47 = .bool fl /\ w1 = wx)
      case first =>
        by_cases h6 : k2 = 6
        · have b6 : (k2 == 6) = true := by rw [h6]; rfl
          obtain ⟨s1, hs1⟩ : ∃ s1, Ls.length + ks2.length = s1 := ⟨_, rfl⟩
          obtain ⟨s2, hs2⟩ : ∃ s2, s1 + ks.length = s2 := ⟨_, rfl⟩
          obtain ⟨s3, hs3⟩ : ∃ s3, s2 - j = s3 := ⟨_, rfl⟩
          obtain ⟨s4, hs4⟩ : ∃ s4, s3 - 1 = s4 := ⟨_, rfl⟩
          have q1 : IntKind.i64.wrap ((Ls.length : Int) + (ks2.length : Int)) = (s1 : Int) := by rw [wrap_i64 _ (by omega) (by omega)]; omega
          have q2 : IntKind.i64.wrap ((s1 : Int) + (ks.length : Int)) = (s2 : Int) := by rw [wrap_i64 _ (by omega) (by omega)]; omega
          have q3 : IntKind.i64.wrap ((s2 : Int) - (j : Int)) = (s3 : Int) := by rw [wrap_i64 _ (by omega) (by omega)]; omega
          have q4 : IntKind.i64.wrap ((s3 : Int) - 1) = (s4 : Int) := by rw [wrap_i64 _ (by omega) (by omega)]; omega
          by_cases hle' : s4 <= 8
          · have hle : (s4 : Int) <= 8 := by omega
            have hff : fl = true := by rw [hflB, h6]; simp; omega
            subst hff
            clear h6 hfl hflB
            go_wp2_with fail
            go_meet
            exact ⟨by simp, rfl⟩
          · have hle : ((s4 : Int) <= 8) = False := by simp; omega
            have hff : fl = false := by rw [hflB, h6]; simp; omega
            subst hff
            clear h6 hfl hflB
            go_wp2_with fail
            go_meet
            exact ⟨by simp, rfl⟩
        · have b6 : (k2 == 6) = false := by rw [beq_eq_false_iff_ne]; exact h6
          have hff : fl = false := by rw [hflB]; simp [h6]
          subst hff
          clear h6 hfl hflB
          go_wp2_with fail
          go_meet
          exact ⟨rfl, rfl⟩
      case rest =>
      obtain ⟨rfl, rfl⟩ := hcut
      have HFF := Lib.hid hfl
      have hfk : fl = true -> 2 <= ks2.length /\ Ls.length + ks2.length + (ks.length - (j + 1)) <= 8 := fun h => by
        rw [hflB, Bool.and_eq_true, decide_eq_true_iff, decide_eq_true_iff] at h
        exact ⟨hk22 (.inr h.1), h.2⟩
      clear hfl hflB
      go_upto_if 47 with fail
      go_cut [5] (fun s5 wx => ∃ (es' : List Ex) (V3 : Option Addr) (c3 : Nat) (rows3 : Nat -> List Value) (m3 : Bool), s5 = .slice V3 (Ls ++ es').length c3 /\ SlI (fun b => lo <= b /\ b < w.heap.size) mb (mkS GA FA g.length gcp fs.length fcp) #[.int .i64 6, .int .u64 a, .int .u64 b, .int .u64 c, .int .u64 d, .string t, .slice (some ad) ks.length cp] w (Ls ++ es') V3 c3 rows3 m3 wx /\ (Ls ++ es').length + (ks.length - (j + 1)) <= 8 /\
        Blk wx kb 37 #[.int .i64 k2, .int .u64 a2, .int .u64 b2, .int .u64 c2, .int .u64 d2, .string t2, .slice A2 ks2.length cp2] /\ ExF (fun b => lo <= b /\ b < w.heap.size) w.heap.size wx (.mk k2 a2 b2 c2 d2 t2 ks2) (exCells k2 a2 b2 c2 d2 t2 A2 ks2.length cp2) /\
        Hid (∀ lb, lastB g fs 6 (.mk k2 a2 b2 c2 d2 t2 ks2) (ks.drop (j + 1)) = lb -> if lb = true then Ls ++ es' = R /\ true = M else (listS g fs 6 (ks.drop (j + 1)) (Ls ++ es')).1 = R /\ (m3 || (listS g fs 6 (ks.drop (j + 1)) (Ls ++ es')).2) = M))
      case first =>
        cases fl with
        | true =>
          obtain ⟨hk22', hf⟩ := hfk rfl
          have HSN : Hid (∀ lb, lastB g fs 6 (.mk k2 a2 b2 c2 d2 t2 ks2) (ks.drop (j + 1)) = lb -> if lb = true then Ls ++ ks2 = R /\ true = M else (listS g fs 6 (ks.drop (j + 1)) (Ls ++ ks2)).1 = R /\ (true || (listS g fs 6 (ks.drop (j + 1)) (Ls ++ ks2)).2) = M) := fun lb hlb => by
            have h := HS.out
            cases lb with
            | true =>
              rw [if_pos rfl]
              rw [listS_flat_last (x := .mk k2 a2 b2 c2 d2 t2 ks2) (fun h => absurd h.2 (by decide)) hlb HFF.out] at h
              exact ⟨h.1, by rw [<- h.2]; simp⟩
            | false =>
              rw [if_neg (by decide)]
              rw [listS_flat (x := .mk k2 a2 b2 c2 d2 t2 ks2) (fun h => absurd h.2 (by decide)) hlb HFF.out] at h
              exact ⟨h.1, by rw [<- h.2]; simp⟩
          clear HS hfk
          have hI2 := hI1.more HT.out (fun h => by have := h.1; omega) hml
          have hx2 := hx1.set (k := mb) (fun h => by have := h.1; omega) 2 (.bool true)
          have hkb2 := hkb.far (p := ⟨mb, 2, none⟩) (by simp; omega) (.bool true)
          have hz2' : (w1.setCell ⟨mb, 2, none⟩ (.bool true)).heap.size = w1.heap.size := by simp [World.setCell]
          clear hI1 hx1 hkb
          go_upto_region 9 with fail
          generalize (w1.setCell ⟨mb, 2, none⟩ (.bool true)) = w2 at hI2 hx2 hkb2 hz2' ⊢
          clear c0 c6 e0 e6 m2 f2
          rw [<- hz2'] at hkl
          clear hz2'
          obtain ⟨ad2, rfl, hab2, hSb2⟩ := hx2.row (by omega)
          obtain ⟨rows2, r1, r2, r3⟩ := hx2.rows
          have c6 : w2.cell? ⟨kb, 6, none⟩ = some (.slice (some ad2) ks2.length cp2) := hkb2.cell 6
          have hl2 : (kdF rows2 ks2.length).length = ks2.length * 7 := kdF_len r2
          have ho2 := kdF_one r1 ks2.length (Nat.le_refl _)
          have h3c := r3 ad2 rfl
          have hbs : w.heap.size + 2 <= w2.heap.size := hI2.res.lt
          have HR1 := Lib.hid r1
          have HX2 := Lib.hid hx2
          clear r1 r2 r3 hx2
          go_wp2_with (at_builtin; refine wpList_append_own_at _ rfl _ _ _ rfl (w.heap.size + 2) 37 i0 _ 7 80 Try.underlying35 hi0 hz0 hz1 hz2 rfl (by decide) _ _ _ rfl hI2.kids.own ad2 ks2.length cp2 (kdF rows2 ks2.length) rfl hl2 h3c ho2 (by unfold maxLen; omega) (by omega) hbs ?_; intro v' w3 hown hgr _ _; obtain ⟨V3, c3, rfl⟩ := own_form hown)
          go_meet
          have hI3 := hI2.app (es' := ks2) (rows' := rows2) HT.out hml HR1.out hown hgr
          have hne3 : ∀ b, b < w.heap.size + 2 -> some b ≠ (Value.slice V Ls.length cv).ownBlock := fun b hb e => by have := (hI2.kids.own.lt b e.symm).1; omega
          have hx3 := HX2.out.keep (W' := w3) fun p hp => World.cell?_of_block (hgr.block p.block (by have := hp.2; omega) (hne3 _ (by have := hp.2; omega)))
          have hkn : some kb ≠ (Value.slice V Ls.length cv).ownBlock := fun e => HOK.out kb e.symm rfl
          have hkb3 := hkb2.grown hgr hkn
          have hl3 : (Ls ++ ks2).length = Ls.length + ks2.length := List.length_append
          clear hl2 ho2 h3c hown hgr hI2 HX2 HR1 hkb2 c6 hbs hne3 hkn hkl
          exact ⟨ks2, V3, c3, _, true, by rw [hl3], hI3, by omega, hkb3, hx3, HSN.out⟩
        | false =>
          have HSN : Hid (∀ lb, lastB g fs 6 (.mk k2 a2 b2 c2 d2 t2 ks2) (ks.drop (j + 1)) = lb -> if lb = true then Ls ++ [Ex.mk k2 a2 b2 c2 d2 t2 ks2] = R /\ true = M else (listS g fs 6 (ks.drop (j + 1)) (Ls ++ [Ex.mk k2 a2 b2 c2 d2 t2 ks2])).1 = R /\ (m' || (listS g fs 6 (ks.drop (j + 1)) (Ls ++ [Ex.mk k2 a2 b2 c2 d2 t2 ks2])).2) = M) := fun lb hlb => by
            have h := HS.out
            cases lb with
            | true =>
              rw [if_pos rfl]
              rw [listS_add_last (x := .mk k2 a2 b2 c2 d2 t2 ks2) (fun h => absurd h.2 (by decide)) hlb HFF.out] at h
              exact ⟨h.1, by rw [<- h.2]; simp⟩
            | false =>
              rw [if_neg (by decide)]
              rw [listS_add (x := .mk k2 a2 b2 c2 d2 t2 ks2) (fun h => absurd h.2 (by decide)) hlb HFF.out] at h
              exact h
          clear HS hfk
          clear c6 m2 f2
          have z0 : w1.cell? ⟨kb, 0, none⟩ = some (.int .i64 k2) := hkb.cell 0; have z1 : w1.cell? ⟨kb, 1, none⟩ = some (.int .u64 a2) := hkb.cell 1; have z2 : w1.cell? ⟨kb, 2, none⟩ = some (.int .u64 b2) := hkb.cell 2; have z3 : w1.cell? ⟨kb, 3, none⟩ = some (.int .u64 c2) := hkb.cell 3; have z4 : w1.cell? ⟨kb, 4, none⟩ = some (.int .u64 d2) := hkb.cell 4; have z5 : w1.cell? ⟨kb, 5, none⟩ = some (.string t2) := hkb.cell 5; have z6 : w1.cell? ⟨kb, 6, none⟩ = some (.slice A2 ks2.length cp2) := hkb.cell 6
          go_upto_region 10 with fail
          clear e0 e6
          have hbs : w.heap.size + 2 <= w1.heap.size := hI1.res.lt
          have hI2 := hI1.below HT.out ((Below.refl _ w1).alloc (Nat.le_refl _) (.cells #[.int .i64 k2, .int .u64 a2, .int .u64 b2, .int .u64 c2, .int .u64 d2, .string t2, .slice A2 ks2.length cp2] 37))
          have hkb2 := hkb.alloc (.cells #[.int .i64 k2, .int .u64 a2, .int .u64 b2, .int .u64 c2, .int .u64 d2, .string t2, .slice A2 ks2.length cp2] 37)
          have hx2 := hx1.keep (W' := (w1.alloc (.cells #[.int .i64 k2, .int .u64 a2, .int .u64 b2, .int .u64 c2, .int .u64 d2, .string t2, .slice A2 ks2.length cp2] 37))) fun p hp => World.cell?_alloc_lt w1 _ p (by have := hp.2; omega)
          have hnb : Blk (w1.alloc (.cells #[.int .i64 k2, .int .u64 a2, .int .u64 b2, .int .u64 c2, .int .u64 d2, .string t2, .slice A2 ks2.length cp2] 37)) w1.heap.size 37 #[.int .i64 k2, .int .u64 a2, .int .u64 b2, .int .u64 c2, .int .u64 d2, .string t2, .slice A2 ks2.length cp2] := blk_at rfl
          have ho1 : ∀ u ∈ ([.int .i64 k2, .int .u64 a2, .int .u64 b2, .int .u64 c2, .int .u64 d2, .string t2, .slice A2 ks2.length cp2] : List Value), u.oneCell' = true := ex_one' hx1.is
          have h3c : ∀ (i : Nat) (u : Value), ([.int .i64 k2, .int .u64 a2, .int .u64 b2, .int .u64 c2, .int .u64 d2, .string t2, .slice A2 ks2.length cp2] : List Value)[i]? = some u -> (w1.alloc (.cells #[.int .i64 k2, .int .u64 a2, .int .u64 b2, .int .u64 c2, .int .u64 d2, .string t2, .slice A2 ks2.length cp2] 37)).cell? ((⟨w1.heap.size, 0, none⟩ : Addr).add i) = some u := fun i u hu => by rw [cell_add]; exact (hnb.cell i).trans (by rw [List.getElem?_toArray]; exact hu)
          have hbs2 : w.heap.size + 2 <= (w1.alloc (.cells #[.int .i64 k2, .int .u64 a2, .int .u64 b2, .int .u64 c2, .int .u64 d2, .string t2, .slice A2 ks2.length cp2] 37)).heap.size := by simp; omega
          clear hkb hx1 hI1 hnb
          go_wp2_with (at_builtin; refine wpList_append_own_at _ rfl _ _ _ rfl (w.heap.size + 2) 37 i0 _ 7 80 Try.underlying35 hi0 hz0 hz1 hz2 rfl (by decide) _ _ _ rfl hI2.kids.own ⟨w1.heap.size, 0, none⟩ 1 1 [.int .i64 k2, .int .u64 a2, .int .u64 b2, .int .u64 c2, .int .u64 d2, .string t2, .slice A2 ks2.length cp2] rfl rfl h3c ho1 (by unfold maxLen; omega) (by omega) hbs2 ?_; intro v' w3 hown hgr _ _; obtain ⟨V3, c3, rfl⟩ := own_form hown)
          go_meet
          clear z0 z1 z2 z3 z4 z5 z6
          generalize (w1.alloc (.cells #[.int .i64 k2, .int .u64 a2, .int .u64 b2, .int .u64 c2, .int .u64 d2, .string t2, .slice A2 ks2.length cp2] 37)) = w2 at hI2 hkb2 hx2 hgr hbs2
          have hown' : w3.ownsRow (w.heap.size + 2) 37 7 (.slice V3 (Ls.length + 1) c3) (Ls.length + 1) (kdF rows Ls.length ++ kdF (fun _ => [.int .i64 k2, .int .u64 a2, .int .u64 b2, .int .u64 c2, .int .u64 d2, .string t2, .slice A2 ks2.length cp2]) 1) := by rw [kdF_single]; exact hown
          have hI3 := hI2.app (es' := [.mk k2 a2 b2 c2 d2 t2 ks2]) (rows' := fun _ => [.int .i64 k2, .int .u64 a2, .int .u64 b2, .int .u64 c2, .int .u64 d2, .string t2, .slice A2 ks2.length cp2]) HT.out hml (fun i e he => by
            match i, he with
            | 0, he => simp at he; subst he; exact hx2) hown' hgr
          have hne3 : ∀ b, b < w.heap.size + 2 -> some b ≠ (Value.slice V Ls.length cv).ownBlock := fun b hb e => by have := (hI2.kids.own.lt b e.symm).1; omega
          have hx3 := hx2.keep (W' := w3) fun p hp => World.cell?_of_block (hgr.block p.block (by have := hp.2; omega) (hne3 _ (by have := hp.2; omega)))
          have hkn : some kb ≠ (Value.slice V Ls.length cv).ownBlock := fun e => HOK.out kb e.symm rfl
          have hkb3 := hkb2.grown hgr hkn
          have hl3 : (Ls ++ [Ex.mk k2 a2 b2 c2 d2 t2 ks2]).length = Ls.length + 1 := by simp
          clear ho1 h3c hown hown' hgr hI2 hx2 hkb2 hbs hbs2 hne3 hkn
          exact ⟨[Ex.mk k2 a2 b2 c2 d2 t2 ks2], V3, c3, _, m', by rw [hl3], hI3, by omega, hkb3, hx3, HSN.out⟩
      case rest =>
      obtain ⟨es', V3, c3, rows3, m3, rfl, hI3, h83, hkb3, hx3, HS3⟩ := hcut
      clear hI1 hkb hx1 HS HFF hfk c0 c6 e0 e6 m2 f2 hkl HOK
      rename World => w3
      generalize hLz : Ls ++ es' = Lz at *
      clear hLz hL8
      have hml3 := hI3.mak.lt
      have hgl : w.heap.size <= w3.heap.size := hI3.grown.size
      obtain ⟨nl, hnl⟩ : ∃ nl, ks.length - 1 = nl := ⟨_, rfl⟩
      have qn : IntKind.i64.wrap ((ks.length : Int) - 1) = (nl : Int) := by rw [wrap_i64 _ (by omega) (by omega)]; omega
      have hkl3 := hkb3.lt
      obtain ⟨lb, hlb⟩ : ∃ lb, lastB g fs 6 (.mk k2 a2 b2 c2 d2 t2 ks2) (ks.drop (j + 1)) = lb := ⟨_, rfl⟩
      have hlB : lb = (decide (j + 1 ≠ ks.length) && !(ofE g fs (.mk k2 a2 b2 c2 d2 t2 ks2)).f) := by
        rw [<- hlb]
        unfold lastB
        rw [hdl]
        congr 1
        rw [decide_eq_true rfl, Bool.true_and, decide_eq_decide]
        omega
      have HS4 := Lib.hid (HS3.out lb hlb)
      have hfl := fun W (hW : Below w3.heap.size w3 W) => HFL.out W k2 a2 b2 c2 d2 t2 ks2 A2 cp2 (grown_below hI3.grown hW) (hx3.keep (W' := W) fun p hp => hW.cell (by have := hp.2; omega)) HRT.out
      obtain ⟨fb, hfb⟩ : ∃ fb, (ofE g fs (.mk k2 a2 b2 c2 d2 t2 ks2)).f = fb := ⟨_, rfl⟩
      rw [hfb] at hfl hlB
      have HF1 := Lib.hid hfl
      clear hfl hfb hx3 HS3 hlb hk22 hdl
      go_upto_region 11 with fail
      go_cut [82] (fun s82 wx => s82 = .bool lb /\ Below w3.heap.size w3 wx)
      case first =>
        by_cases hlast : j + 1 = ks.length
        · have gl : ((j : Int) < (nl : Int)) = False := by simp; omega
          have hlb2 : lb = false := by rw [hlB]; simp [hlast]
          subst hlb2
          clear hlB
          refine wp_region_l (Below w3.heap.size w3) (fun _ => false) (by kernel_rfl) ?_
          have hC : Below w3.heap.size w3 w3.drew := (Below.refl _ _).drew
          generalize w3.drew = wd at hC ⊢
          have hebx := hI3.box
          apply L.rd (i := 0) rfl (by kernel_rfl) hC rfl
          · intro W hW
            skip
            unfold readW
            go_simp
            first | rfl | exact ⟨rfl, rfl⟩
          first | simp only [Act.put, p1, p2, p3] | skip
          apply L.rd (i := 1) rfl (by kernel_rfl) hC rfl
          · intro W hW
            have n0 := (hebx.below hW hebx.lt).cell 0
            unfold readW
            go_simp
            first | rfl | exact ⟨rfl, rfl⟩
          first | simp only [Act.put, p1, p2, p3] | skip
          apply L.rd (i := 2) rfl (by kernel_rfl) hC rfl
          · intro W hW
            skip
            unfold readW
            go_simp
            first | rfl | exact ⟨rfl, rfl⟩
          first | simp only [Act.put, p1, p2, p3] | skip
          apply L.rd (i := 3) rfl (by kernel_rfl) hC rfl
          · intro W hW
            skip
            unfold readW
            go_simp
            first | rfl | exact ⟨rfl, rfl⟩
          first | simp only [Act.put, p1, p2, p3] | skip
          apply L.rdg (i := 4) rfl (by kernel_rfl) hC (by kernel_rfl)
          · intro W hW
            skip
            unfold readW
            go_simp
            first | rfl | exact ⟨rfl, rfl⟩
          first | simp only [Act.put, p1, p2, p3] | skip
          apply L.rdg (i := 5) rfl (by kernel_rfl) hC (by kernel_rfl)
          · intro W hW
            skip
            unfold readW
            go_simp
            first | rfl | exact ⟨rfl, rfl⟩
          first | simp only [Act.put, p1, p2, p3] | skip
          apply L.rdg (i := 6) rfl (by kernel_rfl) hC (by kernel_rfl)
          · intro W hW
            have n0 := (hebx.below hW hebx.lt).cell 6
            unfold readW
            go_simp
            first | rfl | exact ⟨rfl, rfl⟩
          first | simp only [Act.put, p1, p2, p3] | skip
          apply L.rdg (i := 7) rfl (by kernel_rfl) hC (by kernel_rfl)
          · intro W hW
            skip
            unfold readW
            go_simp
            first | rfl | exact ⟨rfl, rfl⟩
          first | simp only [Act.put, p1, p2, p3] | skip
          apply L.rdg (i := 8) rfl (by kernel_rfl) hC (by kernel_rfl)
          · intro W hW
            skip
            unfold readW
            go_simp
            first | rfl | exact ⟨rfl, rfl⟩
          first | simp only [Act.put, p1, p2, p3] | skip
          apply L.rdg (i := 9) rfl (by kernel_rfl) hC (by kernel_rfl)
          · intro W hW
            skip
            unfold readW
            go_simp
            first | rfl | exact ⟨rfl, rfl⟩
          first | simp only [Act.put, p1, p2, p3] | skip
          apply L.rd (i := 10) rfl (by kernel_rfl) hC rfl
          · intro W hW
            skip
            unfold readW
            go_simp
            first | rfl | exact ⟨rfl, rfl⟩
          first | simp only [Act.put, p1, p2, p3] | skip
          apply L.rd (i := 11) rfl (by kernel_rfl) hC rfl
          · intro W hW
            skip
            unfold readW
            go_simp
            first | rfl | exact ⟨rfl, rfl⟩
          first | simp only [Act.put, p1, p2, p3] | skip
          apply L.skip (i := 12) rfl (by kernel_rfl) hC (by kernel_rfl)
          first | simp only [Act.put, p1, p2, p3] | skip
          apply L.skip (i := 13) rfl (by kernel_rfl) hC (by kernel_rfl)
          first | simp only [Act.put, p1, p2, p3] | skip
          apply L.skip (i := 14) rfl (by kernel_rfl) hC (by kernel_rfl)
          first | simp only [Act.put, p1, p2, p3] | skip
          apply L.skip (i := 15) rfl (by kernel_rfl) hC (by kernel_rfl)
          first | simp only [Act.put, p1, p2, p3] | skip
          apply L.skip (i := 16) rfl (by kernel_rfl) hC (by kernel_rfl)
          first | simp only [Act.put, p1, p2, p3] | skip
          apply L.skip (i := 17) rfl (by kernel_rfl) hC (by kernel_rfl)
          first | simp only [Act.put, p1, p2, p3] | skip
          apply L.skip (i := 18) rfl (by kernel_rfl) hC (by kernel_rfl)
          first | simp only [Act.put, p1, p2, p3] | skip
          apply L.skip (i := 19) rfl (by kernel_rfl) hC (by kernel_rfl)
          first | simp only [Act.put, p1, p2, p3] | skip
          apply L.skip (i := 20) rfl (by kernel_rfl) hC (by kernel_rfl)
          first | simp only [Act.put, p1, p2, p3] | skip
          apply L.skip (i := 21) rfl (by kernel_rfl) hC (by kernel_rfl)
          first | simp only [Act.put, p1, p2, p3] | skip
          apply L.skip (i := 22) rfl (by kernel_rfl) hC (by kernel_rfl)
          first | simp only [Act.put, p1, p2, p3] | skip
          apply L.rd (i := 23) rfl (by kernel_rfl) hC rfl
          · intro W hW
            skip
            unfold readW
            go_simp
            first | rfl | exact ⟨rfl, rfl⟩
          first | simp only [Act.put, p1, p2, p3] | skip
          refine L.done (by kernel_rfl) ?_
          go_wp2_with fail
          go_meet
          exact ⟨rfl, hC⟩
        · have gl : (j : Int) < (nl : Int) := by omega
          have hlb2 : lb = !fb := by rw [hlB]; simp [hlast]
          subst hlb2
          clear hlB
          refine wp_region_l (Below w3.heap.size w3) (fun _ => false) (by kernel_rfl) ?_
          have hC : Below w3.heap.size w3 w3.drew := (Below.refl _ _).drew
          generalize w3.drew = wd at hC ⊢
          have hebx := hI3.box
          have hmak := hI3.mak
          apply L.rd (i := 0) rfl (by kernel_rfl) hC rfl
          · intro W hW
            skip
            unfold readW
            go_simp
            first | rfl | exact ⟨rfl, rfl⟩
          first | simp only [Act.put, p1, p2, p3] | skip
          apply L.rd (i := 1) rfl (by kernel_rfl) hC rfl
          · intro W hW
            have n0 := (hebx.below hW hebx.lt).cell 0
            unfold readW
            go_simp
            first | rfl | exact ⟨rfl, rfl⟩
          first | simp only [Act.put, p1, p2, p3] | skip
          apply L.rd (i := 2) rfl (by kernel_rfl) hC rfl
          · intro W hW
            skip
            unfold readW
            go_simp
            first | rfl | exact ⟨rfl, rfl⟩
          first | simp only [Act.put, p1, p2, p3] | skip
          apply L.rd (i := 3) rfl (by kernel_rfl) hC rfl
          · intro W hW
            skip
            unfold readW
            go_simp
            first | rfl | exact ⟨rfl, rfl⟩
          first | simp only [Act.put, p1, p2, p3] | skip
          apply L.rdg (i := 4) rfl (by kernel_rfl) hC (by kernel_rfl)
          · intro W hW
            skip
            unfold readW
            go_simp
            first | rfl | exact ⟨rfl, rfl⟩
          first | simp only [Act.put, p1, p2, p3] | skip
          apply L.rdg (i := 5) rfl (by kernel_rfl) hC (by kernel_rfl)
          · intro W hW
            skip
            unfold readW
            go_simp
            first | rfl | exact ⟨rfl, rfl⟩
          first | simp only [Act.put, p1, p2, p3] | skip
          apply L.rdg (i := 6) rfl (by kernel_rfl) hC (by kernel_rfl)
          · intro W hW
            have n0 := (hebx.below hW hebx.lt).cell 6
            unfold readW
            go_simp
            first | rfl | exact ⟨rfl, rfl⟩
          first | simp only [Act.put, p1, p2, p3] | skip
          apply L.rdg (i := 7) rfl (by kernel_rfl) hC (by kernel_rfl)
          · intro W hW
            skip
            unfold readW
            go_simp
            first | rfl | exact ⟨rfl, rfl⟩
          first | simp only [Act.put, p1, p2, p3] | skip
          apply L.rdg (i := 8) rfl (by kernel_rfl) hC (by kernel_rfl)
          · intro W hW
            skip
            unfold readW
            go_simp
            first | rfl | exact ⟨rfl, rfl⟩
          first | simp only [Act.put, p1, p2, p3] | skip
          apply L.rdg (i := 9) rfl (by kernel_rfl) hC (by kernel_rfl)
          · intro W hW
            skip
            unfold readW
            go_simp
            first | rfl | exact ⟨rfl, rfl⟩
          first | simp only [Act.put, p1, p2, p3] | skip
          apply L.rd (i := 10) rfl (by kernel_rfl) hC rfl
          · intro W hW
            skip
            unfold readW
            go_simp
            first | rfl | exact ⟨rfl, rfl⟩
          first | simp only [Act.put, p1, p2, p3] | skip
          apply L.rd (i := 11) rfl (by kernel_rfl) hC rfl
          · intro W hW
            skip
            unfold readW
            go_simp
            first | rfl | exact ⟨rfl, rfl⟩
          first | simp only [Act.put, p1, p2, p3] | skip
          apply L.rdg (i := 12) rfl (by kernel_rfl) hC (by kernel_rfl)
          · intro W hW
            skip
            unfold readW
            go_simp
            first | rfl | exact ⟨rfl, rfl⟩
          first | simp only [Act.put, p1, p2, p3] | skip
          apply L.rdg (i := 13) rfl (by kernel_rfl) hC (by kernel_rfl)
          · intro W hW
            skip
            unfold readW
            go_simp
            first | rfl | exact ⟨rfl, rfl⟩
          first | simp only [Act.put, p1, p2, p3] | skip
          apply L.rdg (i := 14) rfl (by kernel_rfl) hC (by kernel_rfl)
          · intro W hW
            skip
            unfold readW
            go_simp
            first | rfl | exact ⟨rfl, rfl⟩
          first | simp only [Act.put, p1, p2, p3] | skip
          apply L.rdg (i := 15) rfl (by kernel_rfl) hC (by kernel_rfl)
          · intro W hW
            have n0 := (hmak.below hW hml3).cell 0; simp only [mkS, List.getElem?_toArray, List.getElem?_cons_zero] at n0
            unfold readW
            go_simp
            first | rfl | exact ⟨rfl, rfl⟩
          first | simp only [Act.put, p1, p2, p3] | skip
          apply L.rdg (i := 16) rfl (by kernel_rfl) hC (by kernel_rfl)
          · intro W hW
            skip
            unfold readW
            go_simp
            first | rfl | exact ⟨rfl, rfl⟩
          first | simp only [Act.put, p1, p2, p3] | skip
          apply L.rdg (i := 17) rfl (by kernel_rfl) hC (by kernel_rfl)
          · intro W hW
            skip
            unfold readW
            go_simp
            first | rfl | exact ⟨rfl, rfl⟩
          first | simp only [Act.put, p1, p2, p3] | skip
          apply L.rdg (i := 18) rfl (by kernel_rfl) hC (by kernel_rfl)
          · intro W hW
            skip
            unfold readW
            go_simp
            first | rfl | exact ⟨rfl, rfl⟩
          first | simp only [Act.put, p1, p2, p3] | skip
          apply L.rdg (i := 19) rfl (by kernel_rfl) hC (by kernel_rfl)
          · intro W hW
            have n0 := (hmak.below hW hml3).cell 1; simp only [mkS, List.getElem?_toArray, List.getElem?_cons_succ, List.getElem?_cons_zero] at n0
            unfold readW
            go_simp
            first | rfl | exact ⟨rfl, rfl⟩
          first | simp only [Act.put, p1, p2, p3] | skip
          apply L.rdg (i := 20) rfl (by kernel_rfl) hC (by kernel_rfl)
          · intro W hW
            have r0 := (hkb3.below hW hkl3).cell 0; have r1 := (hkb3.below hW hkl3).cell 1; have r2 := (hkb3.below hW hkl3).cell 2; have r3 := (hkb3.below hW hkl3).cell 3; have r4 := (hkb3.below hW hkl3).cell 4; have r5 := (hkb3.below hW hkl3).cell 5; have r6 := (hkb3.below hW hkl3).cell 6
            unfold readW
            go_simp
            first | rfl | exact ⟨rfl, rfl⟩
          first | simp only [Act.put, p1, p2, p3] | skip
          apply L.oneg (i := 21) rfl (by kernel_rfl) (by kernel_rfl)
          unfold stepT
          go_simp
          go_at_call 122
          refine (HF1.out _ hC).mono ?_
          rintro e wn ⟨rfl, hbn⟩
          replace hC := hC.trans (hbn.mono hC.size)
          clear hbn
          refine ⟨_, rfl, hC, ?_⟩
          first | simp only [Act.put, p1, p2, p3] | skip
          apply L.rdg (i := 22) rfl (by kernel_rfl) hC (by kernel_rfl)
          · intro W hW
            skip
            unfold readW
            go_simp
            first | rfl | exact ⟨rfl, rfl⟩
          first | simp only [Act.put, p1, p2, p3] | skip
          apply L.rd (i := 23) rfl (by kernel_rfl) hC rfl
          · intro W hW
            skip
            unfold readW
            go_simp
            first | rfl | exact ⟨rfl, rfl⟩
          first | simp only [Act.put, p1, p2, p3] | skip
          refine L.done (by kernel_rfl) ?_
          go_wp2_with fail
          go_meet
          exact ⟨rfl, hC⟩
      case rest =>
      obtain ⟨rfl, hC⟩ := hcut
      have hI4 := hI3.below HT.out hC
      clear hI3 hC hkb3 qn HF1 hlB
      rename World => wd
      cases lb with
      | false =>
        have HI4 := Lib.hid hI4
        clear hI4
        go_wp2
        go_roundw
        case rel => exact ⟨j + 1, Lz, V3, c3, _, _, by omega, by go_num, rfl, by omega, HI4.out, HS4.out⟩
        case measure => simp [intOf]; omega
      | true =>
        have hRM := HS4.out
        rw [if_pos rfl] at hRM
        obtain ⟨rfl, rfl⟩ := hRM
        clear HS4
        have hI := hI4.more HT.out (fun h => by have := h.1; omega) hml
        have m2 : wd.cell? ⟨mb, 2, none⟩ = some (.bool m3) := hI4.mak.cell 2
        have f2 := hI4.mak.frozen 2
        clear hI4
        go_upto_region 14 with fail
        clear m2 f2
        generalize (wd.setCell ⟨mb, 2, none⟩ (.bool true)) = wz at hI ⊢
        have hlo2 : lo <= w.heap.size := by omega
        have hrs := hI.res
        have hgr := hI.grown
        have hmk := hI.mak
        have hebx := hI.box
        have hwz := hrs.lt
        have hKD := hI.kids
        have hT' : ∀ b, lo <= b /\ b < w.heap.size -> b < wz.heap.size := fun b hb => by have := hb.2; omega
        by_cases hz0' : Lz.length = 0
        · have hnil' : Lz = [] := List.eq_nil_of_length_eq_zero hz0'
          have bl : ((Lz.length : Int) == 0) = true := by rw [hz0']; rfl
          have hsi := fun u0 u1 u2 u3 u4 u5 u6 => HT0.out hnil' _ _ (list_end (S := fun _ => False) (hi := 0) (cs := exCells 1 0 0 0 0 ⟨#[]⟩ none 0 0) (ExF.leaf _ _ wz 1 0 0 0 0 ⟨#[]⟩ (by decide)) (fun b hb => hb.elim) (Nat.zero_le _) hgr hml hmk u0 u1 u2 u3 u4 u5 u6)
          obtain ⟨yz0, yz1, yz2, yz3, yz4, yz5, yz6, yf0, yf1, yf2, yf3, yf4, yf5, yf6, ye0, ye1, ye2, ye3, ye4, ye5, ye6⟩ := st7 hrs (.int .i64 1) (.int .u64 0) (.int .u64 0) (.int .u64 0) (.int .u64 0) (.string ⟨#[]⟩) (.slice none 0 0)
          have HSJ := Lib.hid hsi
          clear hsi hI hKD hgr hmk hebx HT0 HT1 HT2 hrs
          go_wp2
          exact bodyPost_ret (v := .agg #[.int .i64 1, .int .u64 0, .int .u64 0, .int .u64 0, .int .u64 0, .string ⟨#[]⟩, .slice none 0 0]) (by simp [results, Try.results97, go_sem, ye0, ye1, ye2, ye3, ye4, ye5, ye6]) rfl (HSJ.out _ _ _ _ _ _ _)
        have bl0 : ((Lz.length : Int) == 0) = false := by rw [beq_eq_false_iff_ne]; omega
        by_cases hz1' : Lz.length = 1
        · obtain ⟨y, rfl⟩ := one_of hz1'
          have bl1 : ((([y] : List Ex).length : Int) == 1) = true := rfl
          have hpi : (0 : Int) < (([y] : List Ex).length : Int) := by simp
          obtain ⟨_, _, _, hlies, hcells⟩ := hKD.shape
          obtain ⟨yad, rfl, hyb, hyl⟩ := hlies (by simp)
          have hc0 := hcells 0 y yad rfl rfl
          have hF0 := hKD.kid 0 y rfl
          obtain ⟨k1, a1, b1', c1, d1, t1, A1, n1, cp1, hr⟩ := Ex.parts _ hF0.is
          rw [hr] at hF0 hc0
          have hyne : yad.block ≠ mb := by omega
          have y0 : wz.cell? yad = some (.int .i64 k1) := hc0 0 _ rfl
          have y1 : wz.cell? ⟨yad.block, yad.off + 1, none⟩ = some (.int .u64 a1) := hc0 1 _ rfl
          have y2 : wz.cell? ⟨yad.block, yad.off + 2, none⟩ = some (.int .u64 b1') := hc0 2 _ rfl
          have y3 : wz.cell? ⟨yad.block, yad.off + 3, none⟩ = some (.int .u64 c1) := hc0 3 _ rfl
          have y4 : wz.cell? ⟨yad.block, yad.off + 4, none⟩ = some (.int .u64 d1) := hc0 4 _ rfl
          have y5 : wz.cell? ⟨yad.block, yad.off + 5, none⟩ = some (.string t1) := hc0 5 _ rfl
          have y6 : wz.cell? ⟨yad.block, yad.off + 6, none⟩ = some (.slice A1 n1 cp1) := hc0 6 _ rfl
          have hsm : Blk (wz.setCell ⟨mb, 2, none⟩ (.bool true)) mb 138 (mkS GA FA g.length gcp fs.length fcp true) := hmk.set_ 2 _
          have f2 := hmk.frozen 2
          have m2 : wz.cell? ⟨mb, 2, none⟩ = some (.bool true) := hmk.cell 2
          have hgs : w.grownBy (wz.setCell ⟨mb, 2, none⟩ (.bool true)) (some mb) := grown_set hgr _
          have hrs2 := hrs.far (p := ⟨mb, 2, none⟩) (by simp; omega) (.bool true)
          have hF2 := hF0.set (k := mb) (fun hb => by have := hb.1; omega) 2 (.bool true)
          have hsz2 : (wz.setCell ⟨mb, 2, none⟩ (.bool true)).heap.size = wz.heap.size := by simp [World.setCell]
          have hk7 := fun (q : Addr) (hq : q.block = yad.block) => World.cell?_setCell_other wz ⟨mb, 2, none⟩ q (.bool true) (by rintro rfl; exact hyne hq.symm)
          replace y0 := (hk7 _ rfl).trans y0
          replace y1 := (hk7 ⟨_, _, none⟩ rfl).trans y1
          replace y2 := (hk7 ⟨_, _, none⟩ rfl).trans y2
          replace y3 := (hk7 ⟨_, _, none⟩ rfl).trans y3
          replace y4 := (hk7 ⟨_, _, none⟩ rfl).trans y4
          replace y5 := (hk7 ⟨_, _, none⟩ rfl).trans y5
          replace y6 := (hk7 ⟨_, _, none⟩ rfl).trans y6
          have hyl2 : yad.block < (wz.setCell ⟨mb, 2, none⟩ (.bool true)).heap.size := by omega
          clear hI hKD hgr hmk hebx hrs hF0 hlies hcells hc0 hk7
          go_upto_region 19 with fail
          generalize (wz.setCell ⟨mb, 2, none⟩ (.bool true)) = w5 at hsm hgs hrs2 hF2 hsz2 y0 y1 y2 y3 y4 y5 y6 hyl2 ⊢
          have hsi := fun u0 u1 u2 u3 u4 u5 u6 => HT1.out y rfl _ _ (list_end (S := fun b => lo <= b /\ b < w.heap.size) (hi := w.heap.size) (cs := exCells k1 a1 b1' c1 d1 t1 A1 n1 cp1) hF2 (fun b hb => ⟨hb.1, by have := hb.2; omega, by have := hb.2; omega⟩) (by omega) hgs hml hsm u0 u1 u2 u3 u4 u5 u6)
          obtain ⟨yz0, yz1, yz2, yz3, yz4, yz5, yz6, yf0, yf1, yf2, yf3, yf4, yf5, yf6, ye0, ye1, ye2, ye3, ye4, ye5, ye6⟩ := st7 hrs2 (.int .i64 k1) (.int .u64 a1) (.int .u64 b1') (.int .u64 c1) (.int .u64 d1) (.string t1) (.slice A1 n1 cp1)
          have HSJ := Lib.hid hsi
          clear hsi HT0 HT1 HT2 hsm hgs hrs2 hF2 f2 m2
          go_wp2
          exact bodyPost_ret (v := .agg #[.int .i64 k1, .int .u64 a1, .int .u64 b1', .int .u64 c1, .int .u64 d1, .string t1, .slice A1 n1 cp1]) (by simp [results, Try.results97, go_sem, ye0, ye1, ye2, ye3, ye4, ye5, ye6]) rfl (HSJ.out _ _ _ _ _ _ _)
        have bl1 : ((Lz.length : Int) == 1) = false := by rw [beq_eq_false_iff_ne]; omega
        have hN := KidsT.node (S := fun b => (lo <= b /\ b < w.heap.size) \/ (w.heap.size + 2 <= b /\ b < wz.heap.size)) (hi' := wz.heap.size) hKD (fun b hb => .inl hb) (fun b h1 h2 => .inr ⟨h1, h2⟩) (by omega) (Nat.le_refl _) 6 a b c d t htl
        have hN2 := hN.set (k := w.heap.size) (fun hb => hb.elim (fun h => by have := h.2; omega) (fun h => by have := h.1; omega)) 6 (.slice V3 Lz.length c3)
        have hgs : w.grownBy (wz.setCell ⟨w.heap.size, 6, none⟩ (.slice V3 Lz.length c3)) (some mb) := grown_far_set hgr (Nat.le_refl _) _ _
        have hrs2 := hrs.far (p := ⟨w.heap.size, 6, none⟩) (by simp) (.slice V3 Lz.length c3)
        have hmk2 := hmk.far (p := ⟨w.heap.size, 6, none⟩) (by simp; omega) (.slice V3 Lz.length c3)
        have hsz2 : (wz.setCell ⟨w.heap.size, 6, none⟩ (.slice V3 Lz.length c3)).heap.size = wz.heap.size := by simp [World.setCell]
        have heb2 : Blk (wz.setCell ⟨w.heap.size, 6, none⟩ (.slice V3 Lz.length c3)) w.heap.size 37 #[.int .i64 6, .int .u64 a, .int .u64 b, .int .u64 c, .int .u64 d, .string t, .slice V3 Lz.length c3] := hebx.set_ 6 _
        have x6' := hebx.cell 6
        have f6 := hebx.frozen 6
        simp only [List.getElem?_toArray, List.getElem?_cons_succ, List.getElem?_cons_zero] at x6'
        clear hI hKD hgr hmk hebx hrs hN
        go_upto_region 21 with fail
        clear x6' f6
        generalize (wz.setCell ⟨w.heap.size, 6, none⟩ (.slice V3 Lz.length c3)) = w5 at hN2 hgs hrs2 hmk2 hsz2 heb2 ⊢
        have hsi := fun u0 u1 u2 u3 u4 u5 u6 => HT2.out (by omega) _ _ (list_end (hi := wz.heap.size) (cs := exCells 6 a b c d t V3 Lz.length c3) hN2 (fun b hb => hb.elim (fun h => ⟨h.1, by have := h.2; omega, by have := h.2; omega⟩) (fun h => ⟨by have := h.1; omega, by have := h.2; omega, by have := h.1; omega⟩)) (by omega) hgs hml hmk2 u0 u1 u2 u3 u4 u5 u6)
        have x0 : w5.cell? ⟨w.heap.size, 0, none⟩ = some (.int .i64 6) := heb2.cell 0; have x1 : w5.cell? ⟨w.heap.size, 1, none⟩ = some (.int .u64 a) := heb2.cell 1; have x2 : w5.cell? ⟨w.heap.size, 2, none⟩ = some (.int .u64 b) := heb2.cell 2; have x3 : w5.cell? ⟨w.heap.size, 3, none⟩ = some (.int .u64 c) := heb2.cell 3; have x4 : w5.cell? ⟨w.heap.size, 4, none⟩ = some (.int .u64 d) := heb2.cell 4; have x5 : w5.cell? ⟨w.heap.size, 5, none⟩ = some (.string t) := heb2.cell 5; have x6 : w5.cell? ⟨w.heap.size, 6, none⟩ = some (.slice V3 Lz.length c3) := heb2.cell 6
        obtain ⟨yz0, yz1, yz2, yz3, yz4, yz5, yz6, yf0, yf1, yf2, yf3, yf4, yf5, yf6, ye0, ye1, ye2, ye3, ye4, ye5, ye6⟩ := st7 hrs2 (.int .i64 6) (.int .u64 a) (.int .u64 b) (.int .u64 c) (.int .u64 d) (.string t) (.slice V3 Lz.length c3)
        have HSJ := Lib.hid hsi
        clear hsi HT0 HT1 HT2 hN2 hgs hrs2 hmk2 heb2
        go_wp2
        exact bodyPost_ret (v := .agg #[.int .i64 6, .int .u64 a, .int .u64 b, .int .u64 c, .int .u64 d, .string t, .slice V3 Lz.length c3]) (by simp [results, Try.results97, go_sem, ye0, ye1, ye2, ye3, ye4, ye5, ye6]) rfl (HSJ.out _ _ _ _ _ _ _)
    · obtain rfl : j = ks.length := by omega
      have hz : Ls = R /\ m' = M := by
        have := HS.out
        rw [List.drop_length, listS] at this
        exact ⟨this.1, by rw [<- this.2]; simp⟩
      obtain ⟨rfl, rfl⟩ := hz
      clear HS
      have hlo2 : lo <= w.heap.size := by have := HE.out.row (by omega); obtain ⟨ad, _, _, h1, h2⟩ := this; omega
      have hrs := hI.res
      have hgr := hI.grown
      have hmk := hI.mak
      have hebx := hI.box
      have hwz := hrs.lt
      have hKD := hI.kids
      have hT' : ∀ b, lo <= b /\ b < w.heap.size -> b < wr.heap.size := fun b hb => by have := hb.2; omega
      by_cases hz0' : Ls.length = 0
      · have hnil' : Ls = [] := List.eq_nil_of_length_eq_zero hz0'
        have bl : ((Ls.length : Int) == 0) = true := by rw [hz0']; rfl
        have hsi := fun u0 u1 u2 u3 u4 u5 u6 => HT0.out hnil' _ _ (list_end (S := fun _ => False) (hi := 0) (cs := exCells 1 0 0 0 0 ⟨#[]⟩ none 0 0) (ExF.leaf _ _ wr 1 0 0 0 0 ⟨#[]⟩ (by decide)) (fun b hb => hb.elim) (Nat.zero_le _) hgr hml hmk u0 u1 u2 u3 u4 u5 u6)
        obtain ⟨yz0, yz1, yz2, yz3, yz4, yz5, yz6, yf0, yf1, yf2, yf3, yf4, yf5, yf6, ye0, ye1, ye2, ye3, ye4, ye5, ye6⟩ := st7 hrs (.int .i64 1) (.int .u64 0) (.int .u64 0) (.int .u64 0) (.int .u64 0) (.string ⟨#[]⟩) (.slice none 0 0)
        have HSJ := Lib.hid hsi
        clear hsi hI hKD hgr hmk hebx HT0 HT1 HT2 hrs
        go_wp2
        exact bodyPost_ret (v := .agg #[.int .i64 1, .int .u64 0, .int .u64 0, .int .u64 0, .int .u64 0, .string ⟨#[]⟩, .slice none 0 0]) (by simp [results, Try.results97, go_sem, ye0, ye1, ye2, ye3, ye4, ye5, ye6]) rfl (HSJ.out _ _ _ _ _ _ _)
      have bl0 : ((Ls.length : Int) == 0) = false := by rw [beq_eq_false_iff_ne]; omega
      by_cases hz1' : Ls.length = 1
      · obtain ⟨y, rfl⟩ := one_of hz1'
        have bl1 : ((([y] : List Ex).length : Int) == 1) = true := rfl
        have hpi : (0 : Int) < (([y] : List Ex).length : Int) := by simp
        obtain ⟨_, _, _, hlies, hcells⟩ := hKD.shape
        obtain ⟨yad, rfl, hyb, hyl⟩ := hlies (by simp)
        have hc0 := hcells 0 y yad rfl rfl
        have hF0 := hKD.kid 0 y rfl
        obtain ⟨k1, a1, b1', c1, d1, t1, A1, n1, cp1, hr⟩ := Ex.parts _ hF0.is
        rw [hr] at hF0 hc0
        have hyne : yad.block ≠ mb := by omega
        have y0 : wr.cell? yad = some (.int .i64 k1) := hc0 0 _ rfl
        have y1 : wr.cell? ⟨yad.block, yad.off + 1, none⟩ = some (.int .u64 a1) := hc0 1 _ rfl
        have y2 : wr.cell? ⟨yad.block, yad.off + 2, none⟩ = some (.int .u64 b1') := hc0 2 _ rfl
        have y3 : wr.cell? ⟨yad.block, yad.off + 3, none⟩ = some (.int .u64 c1) := hc0 3 _ rfl
        have y4 : wr.cell? ⟨yad.block, yad.off + 4, none⟩ = some (.int .u64 d1) := hc0 4 _ rfl
        have y5 : wr.cell? ⟨yad.block, yad.off + 5, none⟩ = some (.string t1) := hc0 5 _ rfl
        have y6 : wr.cell? ⟨yad.block, yad.off + 6, none⟩ = some (.slice A1 n1 cp1) := hc0 6 _ rfl
        have hsm : Blk (wr.setCell ⟨mb, 2, none⟩ (.bool true)) mb 138 (mkS GA FA g.length gcp fs.length fcp true) := hmk.set_ 2 _
        have f2 := hmk.frozen 2
        have m2 : wr.cell? ⟨mb, 2, none⟩ = some (.bool m') := hmk.cell 2
        have hgs : w.grownBy (wr.setCell ⟨mb, 2, none⟩ (.bool true)) (some mb) := grown_set hgr _
        have hrs2 := hrs.far (p := ⟨mb, 2, none⟩) (by simp; omega) (.bool true)
        have hF2 := hF0.set (k := mb) (fun hb => by have := hb.1; omega) 2 (.bool true)
        have hsz2 : (wr.setCell ⟨mb, 2, none⟩ (.bool true)).heap.size = wr.heap.size := by simp [World.setCell]
        have hk7 := fun (q : Addr) (hq : q.block = yad.block) => World.cell?_setCell_other wr ⟨mb, 2, none⟩ q (.bool true) (by rintro rfl; exact hyne hq.symm)
        replace y0 := (hk7 _ rfl).trans y0
        replace y1 := (hk7 ⟨_, _, none⟩ rfl).trans y1
        replace y2 := (hk7 ⟨_, _, none⟩ rfl).trans y2
        replace y3 := (hk7 ⟨_, _, none⟩ rfl).trans y3
        replace y4 := (hk7 ⟨_, _, none⟩ rfl).trans y4
        replace y5 := (hk7 ⟨_, _, none⟩ rfl).trans y5
        replace y6 := (hk7 ⟨_, _, none⟩ rfl).trans y6
        have hyl2 : yad.block < (wr.setCell ⟨mb, 2, none⟩ (.bool true)).heap.size := by omega
        clear hI hKD hgr hmk hebx hrs hF0 hlies hcells hc0 hk7
        go_upto_region 19 with fail
        generalize (wr.setCell ⟨mb, 2, none⟩ (.bool true)) = w5 at hsm hgs hrs2 hF2 hsz2 y0 y1 y2 y3 y4 y5 y6 hyl2 ⊢
        have hsi := fun u0 u1 u2 u3 u4 u5 u6 => HT1.out y rfl _ _ (list_end (S := fun b => lo <= b /\ b < w.heap.size) (hi := w.heap.size) (cs := exCells k1 a1 b1' c1 d1 t1 A1 n1 cp1) hF2 (fun b hb => ⟨hb.1, by have := hb.2; omega, by have := hb.2; omega⟩) (by omega) hgs hml hsm u0 u1 u2 u3 u4 u5 u6)
        obtain ⟨yz0, yz1, yz2, yz3, yz4, yz5, yz6, yf0, yf1, yf2, yf3, yf4, yf5, yf6, ye0, ye1, ye2, ye3, ye4, ye5, ye6⟩ := st7 hrs2 (.int .i64 k1) (.int .u64 a1) (.int .u64 b1') (.int .u64 c1) (.int .u64 d1) (.string t1) (.slice A1 n1 cp1)
        have HSJ := Lib.hid hsi
        clear hsi HT0 HT1 HT2 hsm hgs hrs2 hF2 f2 m2
        go_wp2
        exact bodyPost_ret (v := .agg #[.int .i64 k1, .int .u64 a1, .int .u64 b1', .int .u64 c1, .int .u64 d1, .string t1, .slice A1 n1 cp1]) (by simp [results, Try.results97, go_sem, ye0, ye1, ye2, ye3, ye4, ye5, ye6]) rfl (HSJ.out _ _ _ _ _ _ _)
      have bl1 : ((Ls.length : Int) == 1) = false := by rw [beq_eq_false_iff_ne]; omega
      have hN := KidsT.node (S := fun b => (lo <= b /\ b < w.heap.size) \/ (w.heap.size + 2 <= b /\ b < wr.heap.size)) (hi' := wr.heap.size) hKD (fun b hb => .inl hb) (fun b h1 h2 => .inr ⟨h1, h2⟩) (by omega) (Nat.le_refl _) 6 a b c d t htl
      have hN2 := hN.set (k := w.heap.size) (fun hb => hb.elim (fun h => by have := h.2; omega) (fun h => by have := h.1; omega)) 6 (.slice V Ls.length cv)
      have hgs : w.grownBy (wr.setCell ⟨w.heap.size, 6, none⟩ (.slice V Ls.length cv)) (some mb) := grown_far_set hgr (Nat.le_refl _) _ _
      have hrs2 := hrs.far (p := ⟨w.heap.size, 6, none⟩) (by simp) (.slice V Ls.length cv)
      have hmk2 := hmk.far (p := ⟨w.heap.size, 6, none⟩) (by simp; omega) (.slice V Ls.length cv)
      have hsz2 : (wr.setCell ⟨w.heap.size, 6, none⟩ (.slice V Ls.length cv)).heap.size = wr.heap.size := by simp [World.setCell]
      have heb2 : Blk (wr.setCell ⟨w.heap.size, 6, none⟩ (.slice V Ls.length cv)) w.heap.size 37 #[.int .i64 6, .int .u64 a, .int .u64 b, .int .u64 c, .int .u64 d, .string t, .slice V Ls.length cv] := hebx.set_ 6 _
      have x6' := hebx.cell 6
      have f6 := hebx.frozen 6
      simp only [List.getElem?_toArray, List.getElem?_cons_succ, List.getElem?_cons_zero] at x6'
      clear hI hKD hgr hmk hebx hrs hN
      go_upto_region 21 with fail
      clear x6' f6
      generalize (wr.setCell ⟨w.heap.size, 6, none⟩ (.slice V Ls.length cv)) = w5 at hN2 hgs hrs2 hmk2 hsz2 heb2 ⊢
      have hsi := fun u0 u1 u2 u3 u4 u5 u6 => HT2.out (by omega) _ _ (list_end (hi := wr.heap.size) (cs := exCells 6 a b c d t V Ls.length cv) hN2 (fun b hb => hb.elim (fun h => ⟨h.1, by have := h.2; omega, by have := h.2; omega⟩) (fun h => ⟨by have := h.1; omega, by have := h.2; omega, by have := h.1; omega⟩)) (by omega) hgs hml hmk2 u0 u1 u2 u3 u4 u5 u6)
      have x0 : w5.cell? ⟨w.heap.size, 0, none⟩ = some (.int .i64 6) := heb2.cell 0; have x1 : w5.cell? ⟨w.heap.size, 1, none⟩ = some (.int .u64 a) := heb2.cell 1; have x2 : w5.cell? ⟨w.heap.size, 2, none⟩ = some (.int .u64 b) := heb2.cell 2; have x3 : w5.cell? ⟨w.heap.size, 3, none⟩ = some (.int .u64 c) := heb2.cell 3; have x4 : w5.cell? ⟨w.heap.size, 4, none⟩ = some (.int .u64 d) := heb2.cell 4; have x5 : w5.cell? ⟨w.heap.size, 5, none⟩ = some (.string t) := heb2.cell 5; have x6 : w5.cell? ⟨w.heap.size, 6, none⟩ = some (.slice V Ls.length cv) := heb2.cell 6
      obtain ⟨yz0, yz1, yz2, yz3, yz4, yz5, yz6, yf0, yf1, yf2, yf3, yf4, yf5, yf6, ye0, ye1, ye2, ye3, ye4, ye5, ye6⟩ := st7 hrs2 (.int .i64 6) (.int .u64 a) (.int .u64 b) (.int .u64 c) (.int .u64 d) (.string t) (.slice V Ls.length cv)
      have HSJ := Lib.hid hsi
      clear hsi HT0 HT1 HT2 hN2 hgs hrs2 hmk2 heb2
      go_wp2
      exact bodyPost_ret (v := .agg #[.int .i64 6, .int .u64 a, .int .u64 b, .int .u64 c, .int .u64 d, .string t, .slice V Ls.length cv]) (by simp [results, Try.results97, go_sem, ye0, ye1, ye2, ye3, ye4, ye5, ye6]) rfl (HSJ.out _ _ _ _ _ _ _)
end Go.Proofs.Ytkmcnekjimobhaa
