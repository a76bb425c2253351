/- show.within and show.text. show.Print, and the walk of the law ShowApart. Drawn regions (QSpl): a read is taken first also where late operations wait for it through others. -/
import Derived.Test.YtndhbdbfjkmloaaDoorJReadLeast16
import Derived.Test.YtndhbdbfjkmloaaDoorJReadLeast9
namespace Go.Proofs.YtndhbdbfjkmloaaDoor
open Go.RowKit

theorem str_app2 (a b : List UInt8) : (⟨a.toArray⟩ : ByteArray) ++ ⟨b.toArray⟩ = ⟨(a ++ b).toArray⟩ := by
  apply ByteArray.ext
  simp
theorem to_bytes {u : ByteArray} {l : List UInt8} (h : u.data.toList = l) : u = ⟨l.toArray⟩ := by
  rw [← h, text_back]
/-- what text answers -/
def DoesT (e : Ex) : Prop := ∀ (k a b c d : Int) (t : ByteArray) (ks : List Ex) (A : Option Addr) (cp : Nat) (w : World), e = .mk k a b c d t ks → ExIs w w.heap.size e (exCells k a b c d t A ks.length cp) → TabAt w →
  Calls Tryd.prog 28 #[.agg #[.int .i64 k, .int .u64 a, .int .u64 b, .int .u64 c, .int .u64 d, .string t, .slice A ks.length cp]] w fun r w' => r = .returned (.string ⟨(txE e).toArray⟩) ∧ Below w.heap.size w w'
set_option maxRecDepth 100000 in
set_option maxHeartbeats 4000000 in
theorem within_any2 {e : Ex} (hT : DoesT e) (hlen : (txE e).length ≤ 1000000) (least : Nat) (k a b c d : Int) (t : ByteArray) (ks : List Ex) (A : Option Addr) (cp : Nat) (w : World) (he : e = .mk k a b c d t ks) (hx : ExIs w w.heap.size e (exCells k a b c d t A ks.length cp)) (hTab : TabAt w) :
    Calls Tryd.prog 58 #[.agg #[.int .i64 k, .int .u64 a, .int .u64 b, .int .u64 c, .int .u64 d, .string t, .slice A ks.length cp], .int .i64 (least : Int)] w fun r w' => r = .returned (.string ⟨(brk e least (txE e)).toArray⟩) ∧ Below w.heap.size w w' := by
  have HT := Lib.hid (fun W (hW : Below w.heap.size w W) => hT k a b c d t ks A cp W he (hx.grow hW) (hTab.below hW hTab.pos))
  have hbx : Blk (w.alloc (.cells #[.int .i64 k, .int .u64 a, .int .u64 b, .int .u64 c, .int .u64 d, .string t, .slice A ks.length cp] 27)) w.heap.size 27 #[.int .i64 k, .int .u64 a, .int .u64 b, .int .u64 c, .int .u64 d, .string t, .slice A ks.length cp] := blk_at rfl
  have hbw : Below w.heap.size w (w.alloc (.cells #[.int .i64 k, .int .u64 a, .int .u64 b, .int .u64 c, .int .u64 d, .string t, .slice A ks.length cp] 27)) := (by repeat (first | exact Below.refl _ _ | assumption | refine Below.drew ?_ | refine below_drewN ?_ _ | refine Below.alloc ?_ (by first | omega | (simp; omega) | simp) _ | refine Below.setCell ?_ (by first | omega | (simp; omega) | simp) _))
  have HLV := Lib.hid (fun W => level_any k a b c d t A ks.length cp W)
  have HK : Hid (brk e least (txE e) = if lvl k < least then 40 :: (txE e ++ [41]) else txE e) := by
    show _ = _
    rw [he]
    rfl
  generalize brk e least (txE e) = B at HK ⊢
  generalize txE e = T at HT HK hlen
  generalize lvl k = v at HLV HK
  clear he hx hTab hT
  go_enter Tryd.func58, Tryd.ntmps58
  go_wp2_with fail
  refine (HT.out _ hbw).mono ?_
  rintro r w1 ⟨rfl, hb1'⟩
  have hb1 := hbw.trans (hb1'.mono hbw.size)
  have hbx1 := hbx.below hb1' (by simp)
  have x0 := hbx1.cell 0
  have x1 := hbx1.cell 1
  have x2 := hbx1.cell 2
  have x3 := hbx1.cell 3
  have x4 := hbx1.cell 4
  have x5 := hbx1.cell 5
  have x6 := hbx1.cell 6
  clear hb1' hbx hbx1
  go_wp2_with fail
  refine (HLV.out _).mono ?_
  rintro r w2 ⟨rfl, hb2⟩
  have hb := hb1.trans (hb2.mono hb1.size)
  have n1 : ¬ 9223372036854775807 < 1 + T.length := by omega
  have n2 : ¬ 9223372036854775807 < 1 + T.length + 1 := by omega
  by_cases hlt : v < least
  · have hK : B = 40 :: (T ++ [41]) := by rw [HK.out, if_pos hlt]
    go_wp2
    go_ret
    exact ⟨by rw [hK, show (40 :: (T ++ [41]) : List UInt8) = ([40] ++ T) ++ [41] from rfl, ← str_app2, ← str_app2]; rfl, hb⟩
  · have hK : B = T := by rw [HK.out, if_neg hlt]
    go_wp2
    go_ret
    exact ⟨by rw [hK]; rfl, hb⟩

def strX (l : List (List UInt8)) : List Value := l.map fun x => .string ⟨x.toArray⟩
theorem str_infoX : (Tryd.prog.info? 9).map (fun i => (i.zero, i.size, i.bytes)) = some (some (.string ByteArray.empty), 1, 16) := by kernel_rfl
theorem cell_atX {w : World} {g k : Nat} : w.cell? ((⟨g, 0, none⟩ : Addr).add k) = w.cell? ⟨g, 0 + k, none⟩ := by
  cases k with
  | zero => rfl
  | succ k => simp [Addr.add]
theorem rangeF : rangeL 0 256 = [18446744073709551615, 18446744073709551615, 18446744073709551615, 18446744073709551615] := by decide +kernel
theorem full_any (w : World) : Calls Tryd.prog 56 #[.int .i64 0, .int .i64 255] w fun e w' => e = .returned (.agg #[.int .u64 wM, .int .u64 wM, .int .u64 wM, .int .u64 wM]) ∧ Below w.heap.size w w' := by
  refine (range_any 0 255 w (by unfold I64; omega) (by unfold I64; omega) 0 256 (.inl ⟨by omega, rfl⟩) (by decide)).mono fun e w' ⟨h, hb⟩ => ⟨?_, hb⟩
  rw [h, rangeF]
  rfl
theorem nodes_mem {e : Ex} : ∀ {ks : List Ex}, e ∈ ks → nodes e ≤ nodesAll ks
  | _ :: _, .head _ => by rw [nodesAll]; omega
  | _ :: _, .tail _ h => by rw [nodesAll]; have := nodes_mem h; omega
set_option maxRecDepth 100000 in
set_option maxHeartbeats 8000000 in
theorem text_any (e : Ex) : Rtx e → nodes e ≤ 60 → DoesT e := by
  induction e using Ex.ind with
  | h k a b c d t ks ih =>
    intro hR hn k' a' b' c' d' t' ks' A cp w he hx hTab
    injection he with e1 e2 e3 e4 e5 e6 e7
    subst e1 e2 e3 e4 e5 e6 e7
    have hlen := tx_len _ hR
    have hL : (txE (.mk k a b c d t ks)).length ≤ 200000 := by omega
    cases hR with
    | mk _ _ _ _ _ _ _ hf ha hb hc hd hks =>
    have hpos := hTab.pos
    have htz := hx.len.1
    have hmx := hx.len.2.2.2.1
    have hmn := hx.len.2.2.1
    obtain ⟨T, hT⟩ : ∃ T, T = txE (.mk k a b c d t ks) := ⟨_, rfl⟩
    rw [← hT] at hL ⊢
    rw [txE] at hT
    have hbw : Below w.heap.size w (w.alloc (.cells #[.int .i64 k, .int .u64 a, .int .u64 b, .int .u64 c, .int .u64 d, .string t, .slice A ks.length cp] 27)) := (by repeat (first | exact Below.refl _ _ | assumption | refine Below.drew ?_ | refine below_drewN ?_ _ | refine Below.alloc ?_ (by first | omega | (simp; omega) | simp) _ | refine Below.setCell ?_ (by first | omega | (simp; omega) | simp) _))
    have hbx : Blk (w.alloc (.cells #[.int .i64 k, .int .u64 a, .int .u64 b, .int .u64 c, .int .u64 d, .string t, .slice A ks.length cp] 27)) w.heap.size 27 #[.int .i64 k, .int .u64 a, .int .u64 b, .int .u64 c, .int .u64 d, .string t, .slice A ks.length cp] := blk_at rfl
    have x0 := hbx.cell 0
    have x1 := hbx.cell 1
    have x2 := hbx.cell 2
    have x3 := hbx.cell 3
    have x4 := hbx.cell 4
    have x5 := hbx.cell 5
    have x6 := hbx.cell 6
    rcases fit_what hf with ⟨rfl, hz⟩ | ⟨rfl, hz⟩ | ⟨rfl, ht, hz⟩ | ⟨rfl, ht, hz⟩ | ⟨hk, hz1, hz, hn2, hn8⟩ | ⟨hk, hz1, hz, hn1⟩
    · rw [if_pos rfl] at hT
      have HT := Lib.hid hT
      clear hT ih hks hx hz
      go_enter Tryd.func28, Tryd.ntmps28
      go_wp2
      go_ret
      exact ⟨by rw [HT.out]; rfl, hbw⟩
    · rw [if_neg (by decide), if_pos rfl] at hT
      obtain ⟨q, hq⟩ : ∃ q, (a == wM && (b == wM && (c == wM && d == wM))) = q := ⟨_, rfl⟩
      have hsm := fun W => run_same_set W a b c d wM wM wM wM
      rw [hq] at hsm
      obtain ⟨hwd, hes⟩ := words_of ha hb hc hd
      have HCL := Lib.hid (fun W hT => class_any [a.toNat, b.toNat, c.toNat, d.toNat] hwd W hT)
      have hvv : vals [a.toNat, b.toNat, c.toNat, d.toNat] = .agg #[.int .u64 a, .int .u64 b, .int .u64 c, .int .u64 d] := by
        unfold vals
        simp [Int.toNat_of_nonneg ha.1, Int.toNat_of_nonneg hb.1, Int.toNat_of_nonneg hc.1, Int.toNat_of_nonneg hd.1]
      rw [hvv] at HCL
      have hq3 : (q = true ∧ T = [46]) ∨ (q = false ∧ T = clsAll [a.toNat, b.toNat, c.toNat, d.toNat]) := by
        by_cases hF : a = wM ∧ b = wM ∧ c = wM ∧ d = wM
        · rw [if_pos hF] at hT
          refine .inl ⟨?_, hT⟩
          rw [← hq, hF.1, hF.2.1, hF.2.2.1, hF.2.2.2]
          rfl
        · rw [if_neg hF] at hT
          refine .inr ⟨?_, hT⟩
          cases hb : q with
          | false => rfl
          | true =>
            rw [hb] at hq
            simp only [Bool.and_eq_true, beq_iff_eq] at hq
            exact absurd ⟨hq.1, hq.2.1, hq.2.2.1, hq.2.2.2⟩ hF
      have HT := Lib.hid hq3
      have HFA := Lib.hid (fun W => full_any W)
      generalize wM = M at hsm HFA
      clear hT ih hks hx hz hq hq3 hvv
      go_enter Tryd.func28, Tryd.ntmps28
      go_wp2_with fail
      refine wp_region_q (fun W => Below w.heap.size w W ∧ Blk W w.heap.size 27 #[.int .i64 2, .int .u64 a, .int .u64 b, .int .u64 c, .int .u64 d, .string t, .slice A ks.length cp]) (by kernel_rfl) (by kernel_rfl) ⟨hbw.drew, hbx.drew⟩ ?_
      repeat
        (first | ((with_reducible apply QW.free rfl); · (intro W hW; obtain ⟨q1, q2⟩ := hW; have g1 := q2.cell 1; have g2 := q2.cell 2; have g3 := q2.cell 3; have g4 := q2.cell 4; go_simp; first | (go_at_call 56; refine (HFA.out _).mono ?_; rintro e w' ⟨rfl, hbb⟩; exact ⟨rfl, q1.trans (hbb.mono q1.size), q2.below hbb q2.lt⟩) | rfl | exact hsm _)) | ((with_reducible apply QW.skip rfl); · (first | exact ⟨_, _, rfl, rfl, .inl rfl⟩ | exact ⟨_, _, rfl, rfl, .inr rfl⟩)) | ((with_reducible apply QW.take rfl); (· exact ⟨_, rfl, rfl⟩); (· (intro W hW; obtain ⟨q1, q2⟩ := hW; have g1 := q2.cell 1; have g2 := q2.cell 2; have g3 := q2.cell 3; have g4 := q2.cell 4; go_simp; first | (go_at_call 56; refine (HFA.out _).mono ?_; rintro e w' ⟨rfl, hbb⟩; exact ⟨rfl, q1.trans (hbb.mono q1.size), q2.below hbb q2.lt⟩) | rfl | exact hsm _)))); (try simp only [Act.put, List.setIfInBounds_toArray, List.set_cons_zero, List.set_cons_succ])
      refine QW.nil ?_
      rintro w1 ⟨q1, q2⟩
      have g1 := q2.cell 1
      have g2 := q2.cell 2
      have g3 := q2.cell 3
      have g4 := q2.cell 4
      rcases HT.out with ⟨rfl, rfl⟩ | ⟨rfl, hT⟩
      · go_wp2
        go_ret
        exact ⟨rfl, q1⟩
      · have HT2 := Lib.hid hT
        clear hT
        go_wp2_with fail
        refine (HCL.out _ (hTab.below q1 hpos)).mono ?_
        rintro r w2 ⟨⟨u, rfl, hu⟩, hb2⟩
        have hu' := to_bytes hu
        go_wp2
        go_ret
        exact ⟨by rw [HT2.out]; first | rfl | (rw [hu']; rfl), q1.trans (hb2.mono q1.size)⟩
    · rw [if_neg (by decide), if_neg (by decide), if_pos rfl] at hT
      have HT := Lib.hid hT
      have HLT := Lib.hid (fun W => lit_any t W (by have := size_list t; have := ht.2; omega))
      clear hT ih hks hx hz
      go_enter Tryd.func28, Tryd.ntmps28
      go_wp2_with fail
      refine (HLT.out _).mono ?_
      rintro r w1 ⟨⟨u, rfl, hu⟩, hb1⟩
      have hu' := to_bytes hu
      go_wp2
      go_ret
      exact ⟨by rw [HT.out]; first | rfl | (rw [hu']; rfl), hbw.trans (hb1.mono hbw.size)⟩
    · rw [if_neg (by decide), if_neg (by decide), if_neg (by decide), if_pos rfl] at hT
      have HT := Lib.hid hT
      clear hT ih hks hx hz ht
      go_enter Tryd.func28, Tryd.ntmps28
      go_wp2
      go_ret
      exact ⟨by rw [HT.out, text_back]; rfl, hbw⟩
    · have hnk : nodesAll ks ≤ 59 := by
        rw [nodes] at hn
        omega
      have IH := Lib.hid (fun e (he : e ∈ ks) => ih e he (hks e he) (Nat.le_trans (nodes_mem he) (by omega)))
      have HKL := Lib.hid (fun e (he : e ∈ ks) => tx_len e (hks e he))
      have HX := Lib.hid hx
      have HNM := Lib.hid (fun e (he : e ∈ ks) => nodes_mem he)
      obtain ⟨i0, hi0, hz0', hz1', hz2'⟩ := info_parts str_infoX
      unfold maxLen at hmx
      rcases hk with rfl | rfl
      · skip
        simp only [Int.reduceEq, if_false] at hT
        have HT := Lib.hid hT
        have HJL := Lib.hid (join_txL 3 [32] (by decide) ks HKL.out)
        clear hT ih hks hx hz hz1
        go_enter Tryd.func28, Tryd.ntmps28
        go_wp2
        go_loopw [5, 7, 76] (fun v _ i wr => ∃ j : Nat, j ≤ ks.length ∧ i = .int .i64 j ∧ (∃ V vp, v = .slice V j vp ∧ Hid (wr.ownsRow (w.heap.size + 1) 9 1 (.slice V j vp) j (strX (txL 3 (ks.take j))))) ∧ Below w.heap.size w wr ∧ w.heap.size + 1 ≤ wr.heap.size) (fun _ _ i _ => ks.length - (intOf i).toNat)
        case atStart => exact ⟨0, by omega, rfl, ⟨none, 0, rfl, ⟨rfl, .inl ⟨rfl, rfl⟩⟩⟩, hbw, by simp⟩
        case round =>
          obtain ⟨j, hj, rfl, ⟨V, vp, rfl, HOWN⟩, hwr, hws⟩ := hrel
          by_cases hjk : j < ks.length
          · have HD : Hid (ks.take (j + 1) = ks.take j ++ [ks[j]]) := by
              show _ = _
              exact take_succ_of (List.getElem?_eq_getElem hjk)
            obtain ⟨ad, k1, a1, b1, c1, d1, t1, ks1, A1, cp1, rfl, hab, hej, hx1, hS⟩ := HX.out.kid (j := j) hjk
            have hmem := List.mem_of_getElem? hej
            have hk1 := fun (q : Addr) (hq : q.block = (ad.add (j * 7)).block) => hwr.cell (p := q) (by rw [hq, add_block]; exact hab)
            have y0 := (hk1 _ rfl).trans hS.c0
            have y1 := (hk1 ⟨_, _, none⟩ rfl).trans hS.c1
            have y2 := (hk1 ⟨_, _, none⟩ rfl).trans hS.c2
            have y3 := (hk1 ⟨_, _, none⟩ rfl).trans hS.c3
            have y4 := (hk1 ⟨_, _, none⟩ rfl).trans hS.c4
            have y5 := (hk1 ⟨_, _, none⟩ rfl).trans hS.c5
            have y6 := (hk1 ⟨_, _, none⟩ rfl).trans hS.c6
            have hl1 := HKL.out _ hmem
            have hnm := HNM.out _ hmem
            have HCall := Lib.hid (fun W (hW : Below w.heap.size w W) => within_any2 (IH.out _ hmem) (by omega) 3 k1 a1 b1 c1 d1 t1 ks1 A1 cp1 W rfl (hx1.grow hW) (hTab.below hW hpos))
            rw [show ((3 : Nat) : Int) = 3 from rfl] at HCall
            have HSN : Hid (strX (txL 3 (ks.take (j + 1))) = strX (txL 3 (ks.take j)) ++ [.string ⟨(brk (.mk k1 a1 b1 c1 d1 t1 ks1) 3 (txE (.mk k1 a1 b1 c1 d1 t1 ks1))).toArray⟩]) := by
              show _ = _
              have hej2 : ks[j] = .mk k1 a1 b1 c1 d1 t1 ks1 := by rw [List.getElem?_eq_getElem hjk] at hej; exact Option.some.inj hej
              rw [HD.out, txL_map, txL_map, hej2]
              unfold strX
              simp
            have hbl := brk_len (.mk k1 a1 b1 c1 d1 t1 ks1) 3 (txE (.mk k1 a1 b1 c1 d1 t1 ks1))
            generalize brk (.mk k1 a1 b1 c1 d1 t1 ks1) 3 (txE (.mk k1 a1 b1 c1 d1 t1 ks1)) = F at HCall HSN hbl
            have hj0 : (0 : Int) ≤ (j : Int) := by omega
            have hj1 : (j : Int) < (ks.length : Int) := by omega
            clear hS hx1 HD hk1 hej hmem
            have hwo := hwr.alloc hwr.size (.cells #[.int .i64 k1, .int .u64 a1, .int .u64 b1, .int .u64 c1, .int .u64 d1, .string t1, .slice A1 ks1.length cp1] 27)
            go_wp2_with fail
            refine (HCall.out _ hwo).mono ?_
            rintro e w2 ⟨rfl, hb2⟩
            have hw2 : Below w.heap.size w w2 := hwo.trans (hb2.mono hwo.size)
            have hs2 := hb2.size
            have hsa : (wr.alloc (.cells #[.int .i64 k1, .int .u64 a1, .int .u64 b1, .int .u64 c1, .int .u64 d1, .string t1, .slice A1 ks1.length cp1] 27)).heap.size = wr.heap.size + 1 := by simp
            rw [hsa] at hs2
            have hown3 := own_below (HOWN.out.alloc _) hb2
            have hsw := hw2.size
            clear hb2 HOWN hsa
            go_wp2_with (at_builtin; refine wpList_append_lies _ rfl _ _ _ rfl (w.heap.size + 1) 9 i0 _ 1 16 Tryd.underlying74 hi0 hz0' hz1' hz2' rfl (by omega) (.slice V j vp) j _ rfl (hown3.alloc _) ⟨w2.heap.size, 0, none⟩ 1 1 [.string ⟨F.toArray⟩] rfl rfl (World.news_of_block (cs := #[.string ⟨F.toArray⟩]) (t := 9) (fr := (0, 0)) (heap_alloc_new w2 _)) (by intro u hu; simp at hu; subst hu; rfl) (by omega) (by unfold maxLen; omega) (by omega) (by simp; omega) _ rfl ?_; intro g3 cap w3 hown4 hgrow hat hlt)
            go_roundw
            case rel =>
              refine ⟨j + 1, by omega, by go_num, ⟨_, cap, rfl, ?_⟩, below_app (hw2.alloc hsw _) (hown3.alloc _) hgrow (by simp; omega) (by omega), by have := hgrow.size; simp at this; omega⟩
              show World.ownsRow _ _ _ _ _ _ _
              rw [HSN.out]
              exact hown4
            case measure => simp [intOf]; omega
          · obtain rfl : j = ks.length := by omega
            have hta : ks.take ks.length = ks := List.take_length
            rw [hta] at HOWN
            obtain ⟨g, cq, hv, hgb, hgl⟩ := HOWN.out.form (by omega)
            simp only [Value.slice.injEq, true_and] at hv
            obtain ⟨rfl, rfl⟩ := hv
            have hcap : ks.length ≤ vp := by
              rcases HOWN.out.2 with ⟨e, e2⟩ | ⟨g', c', cur, e, _, _, e1, e2, _⟩
              · cases e
              · simp only [Value.slice.injEq] at e
                rw [e.2.2]
                exact e1
            have hxl : ((txL 3 ks).map fun x => (⟨x.toArray⟩ : ByteArray)).length = ks.length := by rw [List.length_map, txL_len]
            have hmm : (((txL 3 ks).map fun x => (⟨x.toArray⟩ : ByteArray)).map (·.data.toList)) = txL 3 ks := by simp [List.map_map, Function.comp_def]
            have hjl := HJL.out
            have HJ := sh_strings_Join g 0 vp ((txL 3 ks).map fun x => (⟨x.toArray⟩ : ByteArray)) ⟨#[32]⟩ wr (fun k x hx => by
              have := HOWN.out.cells (g := g) rfl k (.string x) (by unfold strX; rw [List.getElem?_map] at hx ⊢; rw [Option.map_eq_some_iff] at hx ⊢; obtain ⟨y, h1, rfl⟩ := hx; exact ⟨y, h1, rfl⟩)
              rwa [cell_atX] at this) hgl (by omega) (by omega) (by rw [hmm]; show (Lib.join (txL 3 ks) [32]).length ≤ _; omega)
            rw [hxl, hmm] at HJ
            have hsp : (ByteArray.mk #[32]).data.toList = [32] := rfl
            rw [hsp] at HJ
            generalize Lib.join (txL 3 ks) [32] = JJ at HJ HT hjl
            replace HJ := Lib.hid HJ
            clear hxl hmm hjl hsp
            go_wp2_with fail
            refine (HJ.out).mono ?_
            rintro e w2 ⟨rfl, hb2⟩
            go_wp2
            go_ret
            exact ⟨by rw [HT.out]; rfl, hwr.trans (hb2.mono hwr.size)⟩
      · skip
        simp only [Int.reduceEq, if_false, if_true] at hT
        have HT := Lib.hid hT
        have HJL := Lib.hid (join_txL 2 [32, 47, 32] (by decide) ks HKL.out)
        clear hT ih hks hx hz hz1
        go_enter Tryd.func28, Tryd.ntmps28
        go_wp2
        go_loopw [5, 7, 76] (fun v _ i wr => ∃ j : Nat, j ≤ ks.length ∧ i = .int .i64 j ∧ (∃ V vp, v = .slice V j vp ∧ Hid (wr.ownsRow (w.heap.size + 1) 9 1 (.slice V j vp) j (strX (txL 2 (ks.take j))))) ∧ Below w.heap.size w wr ∧ w.heap.size + 1 ≤ wr.heap.size) (fun _ _ i _ => ks.length - (intOf i).toNat)
        case atStart => exact ⟨0, by omega, rfl, ⟨none, 0, rfl, ⟨rfl, .inl ⟨rfl, rfl⟩⟩⟩, hbw, by simp⟩
        case round =>
          obtain ⟨j, hj, rfl, ⟨V, vp, rfl, HOWN⟩, hwr, hws⟩ := hrel
          by_cases hjk : j < ks.length
          · have HD : Hid (ks.take (j + 1) = ks.take j ++ [ks[j]]) := by
              show _ = _
              exact take_succ_of (List.getElem?_eq_getElem hjk)
            obtain ⟨ad, k1, a1, b1, c1, d1, t1, ks1, A1, cp1, rfl, hab, hej, hx1, hS⟩ := HX.out.kid (j := j) hjk
            have hmem := List.mem_of_getElem? hej
            have hk1 := fun (q : Addr) (hq : q.block = (ad.add (j * 7)).block) => hwr.cell (p := q) (by rw [hq, add_block]; exact hab)
            have y0 := (hk1 _ rfl).trans hS.c0
            have y1 := (hk1 ⟨_, _, none⟩ rfl).trans hS.c1
            have y2 := (hk1 ⟨_, _, none⟩ rfl).trans hS.c2
            have y3 := (hk1 ⟨_, _, none⟩ rfl).trans hS.c3
            have y4 := (hk1 ⟨_, _, none⟩ rfl).trans hS.c4
            have y5 := (hk1 ⟨_, _, none⟩ rfl).trans hS.c5
            have y6 := (hk1 ⟨_, _, none⟩ rfl).trans hS.c6
            have hl1 := HKL.out _ hmem
            have hnm := HNM.out _ hmem
            have HCall := Lib.hid (fun W (hW : Below w.heap.size w W) => within_any2 (IH.out _ hmem) (by omega) 2 k1 a1 b1 c1 d1 t1 ks1 A1 cp1 W rfl (hx1.grow hW) (hTab.below hW hpos))
            rw [show ((2 : Nat) : Int) = 2 from rfl] at HCall
            have HSN : Hid (strX (txL 2 (ks.take (j + 1))) = strX (txL 2 (ks.take j)) ++ [.string ⟨(brk (.mk k1 a1 b1 c1 d1 t1 ks1) 2 (txE (.mk k1 a1 b1 c1 d1 t1 ks1))).toArray⟩]) := by
              show _ = _
              have hej2 : ks[j] = .mk k1 a1 b1 c1 d1 t1 ks1 := by rw [List.getElem?_eq_getElem hjk] at hej; exact Option.some.inj hej
              rw [HD.out, txL_map, txL_map, hej2]
              unfold strX
              simp
            have hbl := brk_len (.mk k1 a1 b1 c1 d1 t1 ks1) 2 (txE (.mk k1 a1 b1 c1 d1 t1 ks1))
            generalize brk (.mk k1 a1 b1 c1 d1 t1 ks1) 2 (txE (.mk k1 a1 b1 c1 d1 t1 ks1)) = F at HCall HSN hbl
            have hj0 : (0 : Int) ≤ (j : Int) := by omega
            have hj1 : (j : Int) < (ks.length : Int) := by omega
            clear hS hx1 HD hk1 hej hmem
            have hwo := hwr.alloc hwr.size (.cells #[.int .i64 k1, .int .u64 a1, .int .u64 b1, .int .u64 c1, .int .u64 d1, .string t1, .slice A1 ks1.length cp1] 27)
            go_wp2_with fail
            refine (HCall.out _ hwo).mono ?_
            rintro e w2 ⟨rfl, hb2⟩
            have hw2 : Below w.heap.size w w2 := hwo.trans (hb2.mono hwo.size)
            have hs2 := hb2.size
            have hsa : (wr.alloc (.cells #[.int .i64 k1, .int .u64 a1, .int .u64 b1, .int .u64 c1, .int .u64 d1, .string t1, .slice A1 ks1.length cp1] 27)).heap.size = wr.heap.size + 1 := by simp
            rw [hsa] at hs2
            have hown3 := own_below (HOWN.out.alloc _) hb2
            have hsw := hw2.size
            clear hb2 HOWN hsa
            go_wp2_with (at_builtin; refine wpList_append_lies _ rfl _ _ _ rfl (w.heap.size + 1) 9 i0 _ 1 16 Tryd.underlying74 hi0 hz0' hz1' hz2' rfl (by omega) (.slice V j vp) j _ rfl (hown3.alloc _) ⟨w2.heap.size, 0, none⟩ 1 1 [.string ⟨F.toArray⟩] rfl rfl (World.news_of_block (cs := #[.string ⟨F.toArray⟩]) (t := 9) (fr := (0, 0)) (heap_alloc_new w2 _)) (by intro u hu; simp at hu; subst hu; rfl) (by omega) (by unfold maxLen; omega) (by omega) (by simp; omega) _ rfl ?_; intro g3 cap w3 hown4 hgrow hat hlt)
            go_roundw
            case rel =>
              refine ⟨j + 1, by omega, by go_num, ⟨_, cap, rfl, ?_⟩, below_app (hw2.alloc hsw _) (hown3.alloc _) hgrow (by simp; omega) (by omega), by have := hgrow.size; simp at this; omega⟩
              show World.ownsRow _ _ _ _ _ _ _
              rw [HSN.out]
              exact hown4
            case measure => simp [intOf]; omega
          · obtain rfl : j = ks.length := by omega
            have hta : ks.take ks.length = ks := List.take_length
            rw [hta] at HOWN
            obtain ⟨g, cq, hv, hgb, hgl⟩ := HOWN.out.form (by omega)
            simp only [Value.slice.injEq, true_and] at hv
            obtain ⟨rfl, rfl⟩ := hv
            have hcap : ks.length ≤ vp := by
              rcases HOWN.out.2 with ⟨e, e2⟩ | ⟨g', c', cur, e, _, _, e1, e2, _⟩
              · cases e
              · simp only [Value.slice.injEq] at e
                rw [e.2.2]
                exact e1
            have hxl : ((txL 2 ks).map fun x => (⟨x.toArray⟩ : ByteArray)).length = ks.length := by rw [List.length_map, txL_len]
            have hmm : (((txL 2 ks).map fun x => (⟨x.toArray⟩ : ByteArray)).map (·.data.toList)) = txL 2 ks := by simp [List.map_map, Function.comp_def]
            have hjl := HJL.out
            have HJ := sh_strings_Join g 0 vp ((txL 2 ks).map fun x => (⟨x.toArray⟩ : ByteArray)) ⟨#[32, 47, 32]⟩ wr (fun k x hx => by
              have := HOWN.out.cells (g := g) rfl k (.string x) (by unfold strX; rw [List.getElem?_map] at hx ⊢; rw [Option.map_eq_some_iff] at hx ⊢; obtain ⟨y, h1, rfl⟩ := hx; exact ⟨y, h1, rfl⟩)
              rwa [cell_atX] at this) hgl (by omega) (by omega) (by rw [hmm]; show (Lib.join (txL 2 ks) [32, 47, 32]).length ≤ _; omega)
            rw [hxl, hmm] at HJ
            have hsp : (ByteArray.mk #[32, 47, 32]).data.toList = [32, 47, 32] := rfl
            rw [hsp] at HJ
            generalize Lib.join (txL 2 ks) [32, 47, 32] = JJ at HJ HT hjl
            replace HJ := Lib.hid HJ
            clear hxl hmm hjl hsp
            go_wp2_with fail
            refine (HJ.out).mono ?_
            rintro e w2 ⟨rfl, hb2⟩
            go_wp2
            go_ret
            exact ⟨by rw [HT.out]; rfl, hwr.trans (hb2.mono hwr.size)⟩
    · obtain ⟨e0, rfl⟩ : ∃ e0, ks = [e0] := by
        match ks, hn1 with
        | [e0], _ => exact ⟨e0, rfl⟩
      obtain ⟨ad, k1, a1, b1, c1, d1, t1, ks1, A1, cp1, rfl, hab, hej, hx1, hS⟩ := hx.kid (j := 0) (by simp)
      have he0 : e0 = .mk k1 a1 b1 c1 d1 t1 ks1 := by simpa using hej
      subst he0
      simp only [List.length_singleton] at hbw hbx x0 x1 x2 x3 x4 x5 x6 ⊢
      have hn0 : nodes (.mk k1 a1 b1 c1 d1 t1 ks1) ≤ 60 := by
        rw [nodes, nodesAll, nodesAll] at hn
        omega
      have hR1 := hks _ (.head _)
      have HD := Lib.hid (ih _ (.head _) hR1 hn0)
      have hl1 := tx_len _ hR1
      have HW := Lib.hid (fun W least (hW : Below w.heap.size w W) => within_any2 HD.out (by omega) least k1 a1 b1 c1 d1 t1 ks1 A1 cp1 W rfl (hx1.grow hW) (hTab.below hW hpos))
      have hbl := fun least => brk_len (.mk k1 a1 b1 c1 d1 t1 ks1) least (txE (.mk k1 a1 b1 c1 d1 t1 ks1))
      replace hS : Seven w ad k1 a1 b1 c1 d1 t1 A1 ks1.length cp1 := hS
      have hk1 := fun (q : Addr) (hq : q.block = ad.block) => hbw.cell (p := q) (by rw [hq]; exact hab)
      have y0 := (hk1 _ rfl).trans hS.c0
      have y1 := (hk1 ⟨_, _, none⟩ rfl).trans hS.c1
      have y2 := (hk1 ⟨_, _, none⟩ rfl).trans hS.c2
      have y3 := (hk1 ⟨_, _, none⟩ rfl).trans hS.c3
      have y4 := (hk1 ⟨_, _, none⟩ rfl).trans hS.c4
      have y5 := (hk1 ⟨_, _, none⟩ rfl).trans hS.c5
      have y6 := (hk1 ⟨_, _, none⟩ rfl).trans hS.c6
      rcases (show k = 7 ∨ k = 8 ∨ k = 9 ∨ k = 10 ∨ k = 11 by omega) with rfl | rfl | rfl | rfl | rfl
      · skip
        simp only [Int.reduceEq, if_false, if_true, txL, flat_one] at hT
        have HT := Lib.hid hT
        have hbl4 := hbl 4
        have HW4 := Lib.hid (fun W hW => HW.out W 4 hW)
        rw [show ((4 : Nat) : Int) = 4 from rfl] at HW4
        generalize brk (.mk k1 a1 b1 c1 d1 t1 ks1) 4 (txE (.mk k1 a1 b1 c1 d1 t1 ks1)) = S at HT HW4 hbl4
        clear hT ih hks hx hz hz1 HW hx1 hS hk1
        go_enter Tryd.func28, Tryd.ntmps28
        go_wp2_with fail
        refine (HW4.out _ hbw).mono ?_
        rintro r w1 ⟨rfl, hb1⟩
        have n1 : ¬ 9223372036854775807 < S.length + 1 := by omega
        go_wp2
        go_ret
        exact ⟨by rw [HT.out, ← str_app2]; rfl, hbw.trans (hb1.mono hbw.size)⟩
      · skip
        simp only [Int.reduceEq, if_false, if_true, txL, flat_one] at hT
        have HT := Lib.hid hT
        have hbl4 := hbl 4
        have HW4 := Lib.hid (fun W hW => HW.out W 4 hW)
        rw [show ((4 : Nat) : Int) = 4 from rfl] at HW4
        generalize brk (.mk k1 a1 b1 c1 d1 t1 ks1) 4 (txE (.mk k1 a1 b1 c1 d1 t1 ks1)) = S at HT HW4 hbl4
        clear hT ih hks hx hz hz1 HW hx1 hS hk1
        go_enter Tryd.func28, Tryd.ntmps28
        go_wp2_with fail
        refine (HW4.out _ hbw).mono ?_
        rintro r w1 ⟨rfl, hb1⟩
        have n1 : ¬ 9223372036854775807 < S.length + 1 := by omega
        go_wp2
        go_ret
        exact ⟨by rw [HT.out, ← str_app2]; rfl, hbw.trans (hb1.mono hbw.size)⟩
      · skip
        simp only [Int.reduceEq, if_false, if_true, txL, flat_one] at hT
        have HT := Lib.hid hT
        have hbl4 := hbl 4
        have HW4 := Lib.hid (fun W hW => HW.out W 4 hW)
        rw [show ((4 : Nat) : Int) = 4 from rfl] at HW4
        generalize brk (.mk k1 a1 b1 c1 d1 t1 ks1) 4 (txE (.mk k1 a1 b1 c1 d1 t1 ks1)) = S at HT HW4 hbl4
        clear hT ih hks hx hz hz1 HW hx1 hS hk1
        go_enter Tryd.func28, Tryd.ntmps28
        go_wp2_with fail
        refine (HW4.out _ hbw).mono ?_
        rintro r w1 ⟨rfl, hb1⟩
        have n1 : ¬ 9223372036854775807 < S.length + 1 := by omega
        go_wp2
        go_ret
        exact ⟨by rw [HT.out, ← str_app2]; rfl, hbw.trans (hb1.mono hbw.size)⟩
      · skip
        simp only [Int.reduceEq, if_false, if_true, txL, flat_one] at hT
        have HT := Lib.hid hT
        have hbl3 := hbl 3
        have HW3 := Lib.hid (fun W hW => HW.out W 3 hW)
        rw [show ((3 : Nat) : Int) = 3 from rfl] at HW3
        generalize brk (.mk k1 a1 b1 c1 d1 t1 ks1) 3 (txE (.mk k1 a1 b1 c1 d1 t1 ks1)) = S at HT HW3 hbl3
        clear hT ih hks hx hz hz1 HW hx1 hS hk1
        go_enter Tryd.func28, Tryd.ntmps28
        go_wp2_with fail
        refine (HW3.out _ hbw).mono ?_
        rintro r w1 ⟨rfl, hb1⟩
        have n1 : ¬ 9223372036854775807 < 1 + S.length := by omega
        go_wp2
        go_ret
        exact ⟨by rw [HT.out, show (38 :: S : List UInt8) = [38] ++ S from rfl, ← str_app2]; rfl, hbw.trans (hb1.mono hbw.size)⟩
      · skip
        simp only [Int.reduceEq, if_false, if_true, txL, flat_one] at hT
        have HT := Lib.hid hT
        have hbl3 := hbl 3
        have HW3 := Lib.hid (fun W hW => HW.out W 3 hW)
        rw [show ((3 : Nat) : Int) = 3 from rfl] at HW3
        generalize brk (.mk k1 a1 b1 c1 d1 t1 ks1) 3 (txE (.mk k1 a1 b1 c1 d1 t1 ks1)) = S at HT HW3 hbl3
        clear hT ih hks hx hz hz1 HW hx1 hS hk1
        go_enter Tryd.func28, Tryd.ntmps28
        go_wp2_with fail
        refine (HW3.out _ hbw).mono ?_
        rintro r w1 ⟨rfl, hb1⟩
        have n1 : ¬ 9223372036854775807 < 1 + S.length := by omega
        go_wp2
        go_ret
        exact ⟨by rw [HT.out, show (33 :: S : List UInt8) = [33] ++ S from rfl, ← str_app2]; rfl, hbw.trans (hb1.mono hbw.size)⟩
end Go.Proofs.YtndhbdbfjkmloaaDoor
namespace Go.Proofs.YtndhbdbfjkmloaaDoor
open Go.RowKit

/-- what Print answers -/
def prT (e : Ex) : List UInt8 := if checkE e = 0 then txE e else []
def PrQ (e : Ex) (w : World) (r : Ending) (w' : World) : Prop := r = .returned (.tuple #[.string ⟨(prT e).toArray⟩, .int .i64 (checkE e)]) ∧ Below w.heap.size w w'
set_option maxRecDepth 100000 in
set_option maxHeartbeats 4000000 in
theorem print_any (e : Ex) (hw : WfE e) (k a b c d : Int) (t : ByteArray) (ks : List Ex) (A : Option Addr) (cp : Nat) (w : World) (he : e = .mk k a b c d t ks) (hx : ExIs w w.heap.size e (exCells k a b c d t A ks.length cp)) (hTab : TabAt w) :
    Calls Tryd.prog 12 #[.agg #[.int .i64 k, .int .u64 a, .int .u64 b, .int .u64 c, .int .u64 d, .string t, .slice A ks.length cp]] w (PrQ e w) := by
  have hbx : Blk (w.alloc (.cells #[.int .i64 k, .int .u64 a, .int .u64 b, .int .u64 c, .int .u64 d, .string t, .slice A ks.length cp] 27)) w.heap.size 27 #[.int .i64 k, .int .u64 a, .int .u64 b, .int .u64 c, .int .u64 d, .string t, .slice A ks.length cp] := blk_at rfl
  have hbw : Below w.heap.size w (w.alloc (.cells #[.int .i64 k, .int .u64 a, .int .u64 b, .int .u64 c, .int .u64 d, .string t, .slice A ks.length cp] 27)) := (by repeat (first | exact Below.refl _ _ | assumption | refine Below.drew ?_ | refine below_drewN ?_ _ | refine Below.alloc ?_ (by first | omega | (simp; omega) | simp) _ | refine Below.setCell ?_ (by first | omega | (simp; omega) | simp) _))
  have HCK := Lib.hid (fun W (hW : Below w.heap.size w W) => check_expr e _ W (hx.grow hW))
  have hpos := hTab.pos
  by_cases h0 : checkE e = 0
  · have HTX := Lib.hid (fun W (hW : Below w.heap.size w W) => text_any e (rt_ofX hw h0) (nodes_leX h0) k a b c d t ks A cp W he (hx.grow hW) (hTab.below hW hpos))
    have HQ : Hid (∀ w', Below w.heap.size w w' → PrQ e w (.returned (.tuple #[.string ⟨(txE e).toArray⟩, .int .i64 0])) w') := fun w' hb => ⟨by unfold prT; rw [if_pos h0, h0], hb⟩
    rw [h0] at HCK
    unfold exCells at HCK
    generalize PrQ e w = Q at HQ ⊢
    generalize txE e = T at HTX HQ
    clear he hx h0 hw
    go_enter Tryd.func12, Tryd.ntmps12
    go_wp2_with fail
    refine (HCK.out _ hbw).mono ?_
    rintro r w1 ⟨rfl, hb1'⟩
    have hb1 := hbw.trans (hb1'.mono hbw.size)
    have hbx1 := hbx.below hb1' (by simp)
    have x0 := hbx1.cell 0
    have x1 := hbx1.cell 1
    have x2 := hbx1.cell 2
    have x3 := hbx1.cell 3
    have x4 := hbx1.cell 4
    have x5 := hbx1.cell 5
    have x6 := hbx1.cell 6
    clear hb1' hbx hbx1
    go_wp2_with fail
    refine (HTX.out _ hb1).mono ?_
    rintro r w2 ⟨rfl, hb2⟩
    go_wp2
    exact HQ.out _ (hb1.trans (hb2.mono hb1.size))
  · have HQ : Hid (∀ w', Below w.heap.size w w' → PrQ e w (.returned (.tuple #[.string ⟨#[]⟩, .int .i64 (checkE e)])) w') := fun w' hb => ⟨by unfold prT; rw [if_neg h0], hb⟩
    unfold exCells at HCK
    generalize PrQ e w = Q at HQ ⊢
    generalize checkE e = x at HCK HQ h0
    have hx0 : (x != 0) = true := by rw [bne_iff_ne]; exact h0
    clear he hx h0 hw
    go_enter Tryd.func12, Tryd.ntmps12
    go_wp2_with fail
    refine (HCK.out _ hbw).mono ?_
    rintro r w1 ⟨rfl, hb1'⟩
    have hb1 := hbw.trans (hb1'.mono hbw.size)
    go_wp2
    exact HQ.out _ hb1
end Go.Proofs.YtndhbdbfjkmloaaDoor
namespace Go.Proofs.YtndhbdbfjkmloaaDoor

section
variable {P : Program} {ops : Array Oper} {md : Region.Mode} {C : World → Prop} {late : Nat → Bool} {Q : Exit → Act → World → Prop}
/-- of what is listed all is listed that it waits for -/
def Closed (md : Region.Mode) (ops : Array Oper) (listed : Array Bool) : Prop := ∀ (j : Nat) (oj : Oper), ops[j]? = some oj → listed.getD j false = true → ∀ e ∈ oj.after, Region.binds md e = true → listed.getD e.on false = true
def closedB (md : Region.Mode) (ops : Array Oper) (listed : Array Bool) : Bool := (List.range ops.size).all fun j => match ops[j]? with
  | some oj => !(listed.getD j false) || oj.after.all fun e => !(Region.binds md e) || listed.getD e.on false
  | none => true
theorem closedB_spec {listed : Array Bool} (h : closedB md ops listed = true) : Closed md ops listed := by
  intro j oj hj hl e he hb
  unfold closedB at h
  have h1 := List.all_eq_true.1 h j (List.mem_range.2 (Array.getElem?_eq_some_iff.1 hj).1)
  simp only [hj, hl, Bool.not_true, Bool.false_or] at h1
  have h2 := Array.all_eq_true'.1 h1 e he
  simpa [hb] using h2
/-- does one operation wait for another, maybe through others? -/
def waitsT (md : Region.Mode) (ops : Array Oper) : Nat → Nat → Nat → Bool
  | 0, _, _ => false
  | f + 1, j, i => match ops[j]? with
    | some oj => oj.after.any fun e => Region.binds md e && (e.on == i || waitsT md ops f e.on i)
    | none => false
theorem waitsT_step {f j i : Nat} (h : waitsT md ops (f + 1) j i = true) : ∃ oj, ops[j]? = some oj ∧ ∃ e ∈ oj.after, Region.binds md e = true ∧ (e.on = i ∨ waitsT md ops f e.on i = true) := by
  unfold waitsT at h
  split at h
  · rename_i oj hj
    obtain ⟨e, he, hb⟩ := Array.any_eq_true'.1 h
    simp only [Bool.and_eq_true, Bool.or_eq_true, beq_iff_eq] at hb
    exact ⟨oj, hj, e, he, hb.1, hb.2⟩
  · cases h
theorem waitsT_listed {listed : Array Bool} (hc : Closed md ops listed) : ∀ (f j i : Nat), waitsT md ops f j i = true → listed.getD j false = true → listed.getD i false = true
  | 0, _, _, h, _ => by cases h
  | f + 1, j, i, h, hl => by
    obtain ⟨oj, hj, e, he, hb, h1⟩ := waitsT_step h
    have h2 := hc j oj hj hl e he hb
    rcases h1 with h1 | h1
    · rw [← h1]; exact h2
    · exact waitsT_listed hc f _ _ h1 h2
theorem waitsT_ready {listed : Array Bool} (hc : Closed md ops listed) {f j i : Nat} (h : waitsT md ops f j i = true) (hr : j ∈ Region.ready md ops listed) : listed.getD i false = true := by
  cases f with
  | zero => cases h
  | succ f =>
    obtain ⟨oj, hj, e, he, hb, h1⟩ := waitsT_step h
    obtain ⟨_, o', ho', hall⟩ := mem_ready.1 hr
    rw [hj] at ho'
    injection ho' with ho'
    subst ho'
    have h2 := hall e he hb
    rcases h1 with h1 | h1
    · rw [← h1]; exact h2
    · exact waitsT_listed hc f _ _ h1 h2
/-- a move: it leaves the world as it is -/
def stillB (ops : Array Oper) (j : Nat) : Bool := match ops[j]? with
  | some o => (match o.op with
    | .move _ => true
    | _ => false)
  | none => false
theorem goesI_still {j : Nat} (h : stillB ops j = true) {K : Act → World → Prop} {a : Act} {w : World} (hg : goesI P ops j K a w) : goesI P ops j (fun a' w' => w' = w ∧ K a' w') a w := by
  unfold stillB at h
  unfold goesI at *
  cases ho : ops[j]? with
  | none => rw [ho] at h; cases h
  | some o =>
    rw [ho] at h
    simp only [ho] at hg ⊢
    split
    · rename_i hw
      simp only [hw, if_true] at hg
      cases hop : o.op with
      | move x =>
        unfold stepT at *
        simp only [execOp, hop] at hg ⊢
        exact ⟨by trivial, hg⟩
      | _ => simp [hop] at h
    · rename_i hw
      simp only [hw] at hg
      exact ⟨by trivial, hg⟩
def lateT (md : Region.Mode) (ops : Array Oper) (late : Nat → Bool) (i : Nat) : Bool := (List.range ops.size).all fun j => !late j || waitsT md ops ops.size j i || stillB ops j
theorem lateT_spec {i : Nat} (h : lateT md ops late i = true) {listed : Array Bool} (hc : Closed md ops listed) (hi : listed.getD i true = false) : ∀ j, late j = true → j ∈ Region.ready md ops listed → stillB ops j = true := by
  intro j hj hr
  obtain ⟨_, oj, hoj, _⟩ := mem_ready.1 hr
  unfold lateT at h
  have h1 := List.all_eq_true.1 h j (List.mem_range.2 (Array.getElem?_eq_some_iff.1 hoj).1)
  rw [hj] at h1
  simp only [Bool.not_true, Bool.false_or, Bool.or_eq_true] at h1
  rcases h1 with h1 | h1
  rotate_left
  · exact h1
  have h2 := waitsT_ready hc h1 hr
  rcases Nat.lt_or_ge i listed.size with h' | h'
  · simp [h'] at hi h2; rw [hi] at h2; cases h2
  · simp [Array.getElem?_eq_none h'] at h2
theorem Closed.set {listed : Array Bool} (hc : Closed md ops listed) {j : Nat} (hr : j ∈ Region.ready md ops listed) : Closed md ops (listed.setIfInBounds j true) := by
  intro k ok hk hl e he hb
  by_cases hkj : k = j
  · subst hkj
    obtain ⟨_, o', ho', hall⟩ := mem_ready.1 hr
    rw [hk] at ho'
    injection ho' with ho'
    subst ho'
    exact getD_set_true (hall e he hb)
  · rw [getD_set_ne false (Ne.symm hkj)] at hl
    exact getD_set_true (hc k ok hk hl e he hb)
theorem firstT {i : Nat} {oi : Oper} {v : Value} (hlate : lateT md ops late i = true) (hi : ops[i]? = some oi) (hsel : ∀ (j : Nat) (o : Oper) cs b, ops[j]? = some o → o.op ≠ .select cs b) :
    ∀ (fuel : Nat) (listed : Array Bool) (a : Act) (w : World), C w → Closed md ops listed →
      (∀ j oj, ops[j]? = some oj → j ≠ i → listed.getD j true = false → (∀ e ∈ oj.after, Region.binds md e = true → e.on ≠ i) → oi.apart ops oj = true) →
      i ∈ Region.ready md ops listed → ReadC P ops C oi v a →
      wpAnyL2 P md ops C late Q fuel (listed.setIfInBounds i true) (a.put oi.dst v) w → wpAnyL2 P md ops C late Q (fuel + 1) listed a w := by
  intro fuel
  induction fuel with
  | zero =>
    intro listed a w hC _ _ hr hy H
    refine ⟨fun h => (by rw [h] at hr; cases hr), fun j hj => ?_⟩
    by_cases hji : j = i
    · subst hji; exact hy.goes hi hC ⟨fun _ => hC, H⟩
    · have := ready_mono hj hji
      rw [H.1] at this
      cases this
  | succ fuel ih =>
    intro listed a w hC hcl hfree hr hy H
    refine ⟨fun h => (by rw [h] at hr; cases hr), fun j hj => ?_⟩
    by_cases hji : j = i
    · subst hji; exact hy.goes hi hC ⟨fun _ => hC, H⟩
    · have h1 : goesI P ops j (fun a' w' => (late j = false → C w') ∧ C w' ∧ wpAnyL2 P md ops C late Q fuel ((listed.setIfInBounds i true).setIfInBounds j true) a' w') (a.put oi.dst v) w := by
        have h0 := H.2 j (ready_mono hj hji)
        cases hl : late j with
        | false => rw [hl] at h0; exact goesI.mono (fun a' w' h => ⟨h.1, h.1 rfl, h.2⟩) h0
        | true =>
          have hst := lateT_spec hlate hcl (mem_ready.1 hr).1 j hl hj
          exact goesI.mono (fun a' w' h => ⟨fun h => (by cases h), by rw [h.1]; exact hC, h.2.2⟩) (goesI_still hst h0)
      obtain ⟨hjun, oj, hoj, hall⟩ := mem_ready.1 hj
      have hnot : ∀ e ∈ oj.after, Region.binds md e = true → e.on ≠ i := fun e he hb heq => by
        have h1 := hall e he hb
        have h0 := (mem_ready.1 hr).1
        rw [heq] at h1
        rcases Nat.lt_or_ge i listed.size with h' | h'
        · simp [h'] at h0 h1; rw [h0] at h1; cases h1
        · simp [Array.getElem?_eq_none h'] at h1
      have h2 := goesI_put hoj (hfree j oj hoj hji hjun hnot) (fun cs b => hsel i oi cs b hi) (fun cs b => hsel j oj cs b hoj) hy h1
      have hfree' : ∀ k ok, ops[k]? = some ok → k ≠ i → (listed.setIfInBounds j true).getD k true = false →
          (∀ e ∈ ok.after, Region.binds md e = true → e.on ≠ i) → oi.apart ops ok = true := fun k ok hk hki hun hno => by
        refine hfree k ok hk hki ?_ hno
        by_cases hjk : j = k
        · subst hjk; exact hjun
        · rw [getD_set_ne true hjk] at hun; exact hun
      refine goesI.mono (fun a' w' h3 => ⟨h3.2.1, ih (listed.setIfInBounds j true) a' w' (h3.2.2.1) (hcl.set hj) hfree' (ready_mono hr (Ne.symm hji)) h3.1 ?_⟩) h2
      rw [Array.setIfInBounds_comm _ _ hji]
      exact h3.2.2.2
theorem L.rdt {f i : Nat} {o : Oper} {listed : Array Bool} {a : Act} {w : World} (hi : ops.toList[i]? = some o) (hb : (Region.noSelect ops && (Region.ready md ops listed).contains i && Region.free md ops listed i && lateT md ops late i && closedB md ops listed) = true) (hC : C w) (hg : o.guard = none) {v : Value} (hy : ∀ W, C W → readW P o a W v)
    (h : wpAnyL2 P md ops C late Q f (listed.setIfInBounds i true) (a.put o.dst v) w) : wpAnyL2 P md ops C late Q (f + 1) listed a w := by
  rw [Array.getElem?_toList] at hi
  simp only [Bool.and_eq_true] at hb
  exact firstT hb.1.2 hi (Region.noSelect_spec hb.1.1.1.1) f listed a w hC (closedB_spec hb.2) (Region.free_spec hi hb.1.1.2) (by simpa using hb.1.1.1.2) (.inl ⟨by simp [Region.wanted, hg], hy⟩) h
end
end Go.Proofs.YtndhbdbfjkmloaaDoor
